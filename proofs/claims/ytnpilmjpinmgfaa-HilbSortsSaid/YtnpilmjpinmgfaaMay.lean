/-
  WALK OF THE DOCUMENT's May (may a point be?). CONDITIONS: none.
-/
import Derived.Test.YtnpilmjpinmgfaaRows
import Derived.Test.YtnpilmjpinmgfaaTame
import Derived.Deep.DeepCutAuto
import Derived.IntWalk
namespace Go.Proofs.Ytnpilmjpinmgfaa
open Go.RowKit Go.Proofs.Ytnpilmjpinmgfaa.Tame
set_option maxHeartbeats 400000

def inB (n : Int) : Bool := decide (-536870912 ≤ n) && decide (n ≤ 536870912)
def okI (n : Int) : Prop := -536870912 ≤ n ∧ n ≤ 536870912
def mayB (x y : Int) : Bool := inB x && inB y
theorem inB_ok {n : Int} (h : inB n = true) : okI n := by simpa [inB, okI] using h
theorem mayB_x {x y : Int} (h : mayB x y = true) : okI x := by unfold mayB at h; rw [Bool.and_eq_true] at h; exact inB_ok h.1
theorem mayB_y {x y : Int} (h : mayB x y = true) : okI y := by unfold mayB at h; rw [Bool.and_eq_true] at h; exact inB_ok h.2
theorem mret_bool {a b : Bool} (h : a = b) : Ending.returned (.bool a) = .returned (.bool b) := by rw [h]

theorem refmay_any (ax ay : Int) (w : World) : Calls Try.prog 10 #[.agg #[.int .i64 ax, .int .i64 ay]] w fun e w' => e = .returned (.bool (mayB ax ay)) ∧ Below w.heap.size w w' := by
  by_cases h1 : -536870912 ≤ ax
  · by_cases h2 : ax ≤ 536870912
    · by_cases h3 : -536870912 ≤ ay
      all_goals
        go_enter Try.func10, Try.ntmps10
        go_wp2
        go_ret
        exact ⟨mret_bool (by simp [mayB, inB, h1, h2, h3]; try omega), by go_grown⟩
    · go_enter Try.func10, Try.ntmps10
      go_wp2
      go_ret
      exact ⟨mret_bool (by simp [mayB, inB, h1]; try omega), by go_grown⟩
  · go_enter Try.func10, Try.ntmps10
    go_wp2
    go_ret
    exact ⟨mret_bool (by simp [mayB, inB]; try omega), by go_grown⟩
end Go.Proofs.Ytnpilmjpinmgfaa
