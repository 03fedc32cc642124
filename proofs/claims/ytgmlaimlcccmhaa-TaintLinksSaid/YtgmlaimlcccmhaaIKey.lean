/-
  A SORT OF NUMBERS BY A KEY: Compare, and what is asked of a comparison. CONDITIONS: stated.
-/
import Derived.Test.YtgmlaimlcccmhaaISort2
namespace Go.Proofs.Ytgmlaimlcccmhaa
open Go.RowKit Go.Proofs.Ytgmlaimlcccmhaa.Tame
set_option maxHeartbeats 400000

def cmpI (x y : Int) : Int := if x < y then -1 else if y < x then 1 else 0
theorem cmpI_neg (x y : Int) : cmpI x y < 0 ↔ x < y := by
  unfold cmpI
  split
  · simp_all
  · split <;> simp_all
theorem isnan_any (x : Int) (w : World) : Calls Try.prog 31 #[.int .i64 x] w fun e w' => e = .returned (.bool false) ∧ w = w' := by
  go_enter Try.func31, Try.ntmps31
  go_wp2
  go_ret
  exact ⟨rfl, rfl⟩
theorem compare_any (x y : Int) (w : World) : Calls Try.prog 24 #[.int .i64 x, .int .i64 y] w fun e w' => e = .returned (.int .i64 (cmpI x y)) ∧ w = w' := by
  by_cases h1 : x < y
  · have e : cmpI x y = -1 := if_pos h1
    rw [e]
    clear e
    go_enter Try.func24, Try.ntmps24
    go_wp2_with (go_at_call 31; refine (isnan_any _ _).mono ?_; rintro e w' ⟨rfl, rfl⟩)
    go_ret
    exact ⟨rfl, rfl⟩
  · by_cases h2 : y < x
    · have e : cmpI x y = 1 := by unfold cmpI; rw [if_neg h1, if_pos h2]
      rw [e]
      clear e
      go_enter Try.func24, Try.ntmps24
      go_wp2_with (go_at_call 31; refine (isnan_any _ _).mono ?_; rintro e w' ⟨rfl, rfl⟩)
      go_ret
      exact ⟨rfl, rfl⟩
    · have e : cmpI x y = 0 := by unfold cmpI; rw [if_neg h1, if_neg h2]
      rw [e]
      clear e
      go_enter Try.func24, Try.ntmps24
      go_wp2_with (go_at_call 31; refine (isnan_any _ _).mono ?_; rintro e w' ⟨rfl, rfl⟩)
      go_ret
      exact ⟨rfl, rfl⟩
/-- A comparison by a key, in every world in which all but block g is as it was in w0. -/
def CmpOK (key : Int → Int) (D : Int → Prop) (g : Nat) (p : Addr) (w0 : World) : Prop := ∀ (W : World) (x y : Int), Kept [g] w0 W → D x → D y →
  Calls Try.prog 23 #[.int .i64 x, .int .i64 y, .pointer (some p)] W fun e w' => e = .returned (.int .i64 (cmpI (key x) (key y))) ∧ Below W.heap.size W w'
end Go.Proofs.Ytgmlaimlcccmhaa
