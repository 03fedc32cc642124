/-
  WALKS OF THE CURVE's SMALL FUNCTIONS: which quarter, a quarter's square turned, where a quarter begins. CONDITIONS: the numbers lie in a range (stated).
-/
import Derived.Test.YtnpilmjpinmgfaaRows
import Derived.Test.YtnpilmjpinmgfaaTame
import Derived.Test.YtnpilmjpinmgfaaCmp
import Derived.IntWalk
namespace Go.Proofs.Ytnpilmjpinmgfaa
open Go.RowKit Go.Proofs.Ytnpilmjpinmgfaa.Tame
set_option maxHeartbeats 400000

def tX (x y q half : Int) : Int := if q = 0 then y else if q = 3 then half - 1 - y else x
def tY (x y q half : Int) : Int := if q = 0 then x else if q = 3 then half - 1 - x else y
def cX (q half : Int) : Int := if q = 1 then 0 else if q = 2 then half else if q = 3 then half else 0
def cY (q half : Int) : Int := if q = 1 then half else if q = 2 then half else 0
def quartI (x y half : Int) : Int := if x < half then (if y < half then 0 else 1) else (if half ≤ y then 2 else 3)

def okH (n : Int) : Prop := -1073741824 ≤ n ∧ n ≤ 1073741824

theorem hturned_any (x y q half : Int) (w : World) (hx : okH x) (hy : okH y) (hh : okH half) :
    Calls Try.prog 29 #[.agg #[.int .i64 x, .int .i64 y], .int .i64 q, .int .i64 half] w fun e w' => e = .returned (.agg #[.int .i64 (tX x y q half), .int .i64 (tY x y q half)]) ∧ Below w.heap.size w w' := by
  obtain ⟨a1, a2⟩ := hx
  obtain ⟨a3, a4⟩ := hy
  obtain ⟨a5, a6⟩ := hh
  unfold tX tY
  by_cases h0 : q = 0
  · rw [if_pos h0, if_pos h0]
    subst h0
    go_enter Try.func29, Try.ntmps29
    go_wp2
    go_returns
    exact ⟨rfl, by go_grown⟩
  · by_cases h3 : q = 3
    · rw [if_neg h0, if_pos h3, if_neg h0, if_pos h3]
      subst h3
      go_enter Try.func29, Try.ntmps29
      go_wp2
      go_returns
      exact ⟨rfl, by go_grown⟩
    · rw [if_neg h0, if_neg h3, if_neg h0, if_neg h3]
      have b0 : (q == 0) = false := beq_eq_false_iff_ne.2 h0
      have b3 : (q == 3) = false := beq_eq_false_iff_ne.2 h3
      clear h0 h3
      go_enter Try.func29, Try.ntmps29
      go_wp2
      go_returns
      exact ⟨rfl, by go_grown⟩

theorem corner_any (q half : Int) (w : World) :
    Calls Try.prog 30 #[.int .i64 q, .int .i64 half] w fun e w' => e = .returned (.agg #[.int .i64 (cX q half), .int .i64 (cY q half)]) ∧ Below w.heap.size w w' := by
  unfold cX cY
  by_cases h1 : q = 1
  · subst h1
    rw [if_pos rfl, if_pos rfl]
    go_enter Try.func30, Try.ntmps30
    go_wp2
    go_returns
    exact ⟨rfl, by go_grown⟩
  · by_cases h2 : q = 2
    · subst h2
      rw [if_neg (by decide), if_pos rfl, if_neg (by decide), if_pos rfl]
      go_enter Try.func30, Try.ntmps30
      go_wp2
      go_returns
      exact ⟨rfl, by go_grown⟩
    · by_cases h3 : q = 3
      · subst h3
        rw [if_neg (by decide), if_neg (by decide), if_pos rfl, if_neg (by decide), if_neg (by decide)]
        go_enter Try.func30, Try.ntmps30
        go_wp2
        go_returns
        exact ⟨rfl, by go_grown⟩
      · rw [if_neg h1, if_neg h2, if_neg h3, if_neg h1, if_neg h2]
        have b1 : (q == 1) = false := beq_eq_false_iff_ne.2 h1
        have b2 : (q == 2) = false := beq_eq_false_iff_ne.2 h2
        have b3 : (q == 3) = false := beq_eq_false_iff_ne.2 h3
        clear h1 h2 h3
        go_enter Try.func30, Try.ntmps30
        go_wp2
        go_returns
        exact ⟨rfl, by go_grown⟩

theorem quarter_any (x y half : Int) (w : World) :
    Calls Try.prog 32 #[.agg #[.int .i64 x, .int .i64 y], .int .i64 half] w fun e w' => e = .returned (.int .i64 (quartI x y half)) ∧ Below w.heap.size w w' := by
  unfold quartI
  by_cases h1 : x < half <;> by_cases h2 : y < half
  · rw [if_pos h1, if_pos h2]
    go_enter Try.func32, Try.ntmps32
    go_wp2
    go_ret
    exact ⟨rfl, by go_grown⟩
  · rw [if_pos h1, if_neg h2]
    go_enter Try.func32, Try.ntmps32
    go_wp2
    go_ret
    exact ⟨rfl, by go_grown⟩
  · rw [if_neg h1, if_neg (by omega)]
    go_enter Try.func32, Try.ntmps32
    go_wp2
    go_ret
    exact ⟨rfl, by go_grown⟩
  · rw [if_neg h1, if_pos (by omega)]
    go_enter Try.func32, Try.ntmps32
    go_wp2
    go_ret
    exact ⟨rfl, by go_grown⟩
end Go.Proofs.Ytnpilmjpinmgfaa
