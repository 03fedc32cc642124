/-
  WALKS OF THE SMALL FUNCTIONS OF A SORT OF SQUARES: Compare, the test of a square, the comparison of two squares by their index. CONDITIONS: the captured order is from 0 to 20 and the squares are of that order (for the comparison).
-/
import Derived.Test.YtnpilmjpinmgfaaHKey
import Derived.Lib.Hide
namespace Go.Proofs.Ytnpilmjpinmgfaa
open Go.RowKit Go.Proofs.Ytnpilmjpinmgfaa.Tame
set_option maxHeartbeats 400000

def cmpI (x y : Int) : Int := if x < y then -1 else if y < x then 1 else 0
theorem isnan_any (x : Int) (w : World) : Calls Try.prog 43 #[.int .i64 x] w fun e w' => e = .returned (.bool false) ∧ w = w' := by
  go_enter Try.func43, Try.ntmps43
  go_wp2
  go_ret
  exact ⟨rfl, rfl⟩
theorem compare_any (x y : Int) (w : World) : Calls Try.prog 40 #[.int .i64 x, .int .i64 y] w fun e w' => e = .returned (.int .i64 (cmpI x y)) ∧ w = w' := by
  by_cases h1 : x < y
  · have e : cmpI x y = -1 := if_pos h1
    rw [e]
    clear e
    go_enter Try.func40, Try.ntmps40
    go_wp2_with (go_at_call 43; refine (isnan_any _ _).mono ?_; rintro e w' ⟨rfl, rfl⟩)
    go_ret
    exact ⟨rfl, rfl⟩
  · by_cases h2 : y < x
    · have e : cmpI x y = 1 := by unfold cmpI; rw [if_neg h1, if_pos h2]
      rw [e]
      clear e
      go_enter Try.func40, Try.ntmps40
      go_wp2_with (go_at_call 43; refine (isnan_any _ _).mono ?_; rintro e w' ⟨rfl, rfl⟩)
      go_ret
      exact ⟨rfl, rfl⟩
    · have e : cmpI x y = 0 := by unfold cmpI; rw [if_neg h1, if_neg h2]
      rw [e]
      clear e
      go_enter Try.func40, Try.ntmps40
      go_wp2_with (go_at_call 43; refine (isnan_any _ _).mono ?_; rintro e w' ⟨rfl, rfl⟩)
      go_ret
      exact ⟨rfl, rfl⟩

theorem keep2 {W w1 : World} {k : Nat} {o : Obj} (hb : Below W.heap.size W w1) (g : W.heap[k]? = some o) : w1.heap[k]? = some o := (hb.block _ (lt_of_some g)).trans g

/-- The test that a sort asks of each square: is it none of the order? -/
theorem pred_any (k x y : Int) (kb : Nat) (w : World) (hk : w.heap[kb]? = some (.cells #[.int .i64 k] 3)) :
    Calls Try.prog 36 #[.agg #[.int .i64 x, .int .i64 y], .pointer (some ⟨kb, 0, none⟩)] w fun e w' => e = .returned (.bool (!insB k x y)) ∧ Below w.heap.size w w' := by
  have hl := lt_of_some hk
  have c0 : w.cell? ⟨kb, 0, none⟩ = some (.int .i64 k) := cell_of_block hk rfl
  go_enter Try.func36, Try.ntmps36
  go_wp2_with fail
  refine (inside_any k x y _).mono ?_
  rintro e w1 ⟨rfl, hb1⟩
  go_wp2_with fail
  go_ret
  exact ⟨rfl, (by go_grown : Below w.heap.size w (w.alloc (.cells #[.int .i64 x, .int .i64 y] 23))).trans (hb1.mono (by simp))⟩

/-- The comparison that a sort asks. -/
theorem cmp_any (k : Nat) (x y u v : Int) (kb : Nat) (w : World) (hk : w.heap[kb]? = some (.cells #[.int .i64 k] 3)) (hk20 : k ≤ 20) (hp : 0 ≤ x ∧ x < 2 ^ k ∧ 0 ≤ y ∧ y < 2 ^ k) (hq : 0 ≤ u ∧ u < 2 ^ k ∧ 0 ≤ v ∧ v < 2 ^ k) :
    Calls Try.prog 39 #[.agg #[.int .i64 x, .int .i64 y], .agg #[.int .i64 u, .int .i64 v], .pointer (some ⟨kb, 0, none⟩)] w fun e w' => e = .returned (.int .i64 (cmpI (hix k x y) (hix k u v))) ∧ Below w.heap.size w w' := by
  have hl := lt_of_some hk
  have H1 := Lib.hid fun w => hindex_yes k x y w hk20 hp.1 hp.2.1 hp.2.2.1 hp.2.2.2
  have H2 := Lib.hid fun w => hindex_yes k u v w hk20 hq.1 hq.2.1 hq.2.2.1 hq.2.2.2
  clear hp hq
  generalize hix k x y = a at *
  generalize hix k u v = b at *
  have c0 : w.cell? ⟨kb, 0, none⟩ = some (.int .i64 k) := cell_of_block hk rfl
  go_enter Try.func39, Try.ntmps39
  go_wp2_with fail
  refine (H1.out _).mono ?_
  rintro e w1 ⟨rfl, hb1⟩
  have hw1 : Below w.heap.size w w1 := (by go_grown : Below w.heap.size w ((w.alloc (.cells #[.int .i64 x, .int .i64 y] 23)).alloc (.cells #[.int .i64 u, .int .i64 v] 23))).trans (hb1.mono (by simp; omega))
  have hk1 := keep2 hb1 (heap_alloc_lt (heap_alloc_lt hk))
  have g1 : w1.heap[w.heap.size + 1]? = some (.cells #[.int .i64 u, .int .i64 v] 23) := keep2 hb1 (heap_alloc_is (by simp))
  clear hb1 c0
  have c0 : w1.cell? ⟨kb, 0, none⟩ = some (.int .i64 k) := cell_of_block hk1 rfl
  have c1 : w1.cell? ⟨w.heap.size + 1, 0, none⟩ = some (.int .i64 u) := cell_of_block g1 rfl
  have c2 : w1.cell? ⟨w.heap.size + 1, 1, none⟩ = some (.int .i64 v) := cell_of_block g1 rfl
  go_wp2_with fail
  refine (H2.out _).mono ?_
  rintro e w2 ⟨rfl, hb2⟩
  go_wp2_with fail
  refine (compare_any _ _ _).mono ?_
  rintro e w3 ⟨rfl, rfl⟩
  go_wp2_with fail
  go_ret
  exact ⟨rfl, hw1.trans (hb2.mono hw1.size)⟩
end Go.Proofs.Ytnpilmjpinmgfaa
