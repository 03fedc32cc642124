/-
  WALKS OF Clone AND hilb.Sort AT NO SQUARE. CONDITIONS: stated.
-/
import Derived.Test.YtnpilmjpinmgfaaHSort10
namespace Go.Proofs.Ytnpilmjpinmgfaa
open Go.RowKit Go.Proofs.Ytnpilmjpinmgfaa.Tame
set_option maxHeartbeats 400000

/-- A slice of no element. -/
def EmptyPost (w : World) (e : Ending) (w' : World) : Prop := ∃ a c, e = .returned (.slice a 0 c) ∧ Below w.heap.size w w'
theorem clone_nil (w : World) : Calls Try.prog 37 #[.slice none 0 0] w (EmptyPost w) := by
  have hnil := fun w : World => Lib.run_eql_slice_nil (P := Try.prog) w 58 23 none 0 0 0 0 Try.underlying58
  go_enter Try.func37, Try.ntmps37
  go_wp2
  go_ret
  exact ⟨none, 0, rfl, Below.refl _ _⟩
theorem clone_empty (p : Addr) (cap : Nat) (w : World) : Calls Try.prog 37 #[.slice (some p) 0 cap] w (EmptyPost w) := by
  obtain ⟨i0, hi0, hz0', hz1', hz2'⟩ := info_parts info23
  have hnil := fun w : World => Lib.run_eql_slice_some_nil (P := Try.prog) w (t := 58) p 0 cap Try.underlying58
  go_enter Try.func37, Try.ntmps37
  go_wp2_with (at_builtin; refine wpList_append_own _ rfl _ _ 58 rfl w.heap.size 23 i0 _ 2 16 Try.underlying58 hi0 hz0' hz1' hz2' rfl (by decide) _ 0 [] rfl ?hown p 0 cap [] rfl rfl (fun j u h => by simp at h) (fun u h => by simp at h) (by decide) (by decide) (by simp) ?_; rotate_left; intro v w3 hown3 hgrow hat)
  · have hbel : Below w.heap.size w w3 := ((Below.refl w.heap.size w).alloc (Nat.le_refl _) _).grown hgrow (by simp) (fun k hk => Nat.le_of_eq (Option.some.inj (show some w.heap.size = some k from hk)))
    rcases hown3.2 with ⟨rfl, _⟩ | ⟨g, cap', cur, rfl, _⟩
    · clear hown3 hgrow hat hnil
      go_wp2
      go_ret
      exact ⟨none, 0, rfl, hbel⟩
    · clear hown3 hgrow hat hnil
      go_wp2
      go_ret
      exact ⟨_, cap', rfl, hbel⟩
  · exact ⟨rfl, .inr ⟨w.heap.size, 0, #[], rfl, Nat.le_refl _, heap_alloc_is rfl, Nat.le_refl _, by decide, rfl, rfl⟩⟩

/-- What Sort answers at no square. -/
def SortEmpty (w : World) (e : Ending) (w' : World) : Prop := ∃ a c, e = .returned (.tuple #[.slice a 0 c, .int .i64 0]) ∧ Below w.heap.size w w'
theorem hsort_zero (k : Int) (b : Option Addr) (c : Nat) (w : World) (hb : b = none → c = 0) : Calls Try.prog 27 #[.int .i64 k, .slice b 0 c] w (SortEmpty w) := by
  have hb0 : Below w.heap.size w (w.alloc (.cells #[.int .i64 k] 3)) := (Below.refl w.heap.size w).alloc (Nat.le_refl _) _
  have hcl : Hid (∀ w, Calls Try.prog 37 #[.slice b 0 c] w (EmptyPost w)) := Lib.hid fun w => by
    cases b with
    | none => rw [hb rfl]; exact clone_nil w
    | some p => exact clone_empty p c w
  clear hb
  go_enter Try.func27, Try.ntmps27
  go_wp2_with fail
  refine (contains_zero b c _ _).mono ?_
  rintro e w1 ⟨rfl, rfl⟩
  go_wp2_with fail
  refine (hcl.out _).mono ?_
  rintro e w2 ⟨a2, c2, rfl, hb2⟩
  have hw2 := hb0.trans (hb2.mono (by simp))
  clear hb2
  go_wp2_with fail
  refine (sortstable_zero a2 c2 _ _).mono ?_
  rintro e w3 ⟨rfl, rfl⟩
  go_wp2_with fail
  go_ret2
  exact ⟨a2, c2, rfl, hw2⟩
end Go.Proofs.Ytnpilmjpinmgfaa
