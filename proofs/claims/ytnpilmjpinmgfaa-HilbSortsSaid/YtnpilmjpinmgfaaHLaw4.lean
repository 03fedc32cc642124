/-
  THE LAW OF SORTED SQUARES AT NO SQUARE. CONDITIONS: stated.
-/
import Derived.Test.YtnpilmjpinmgfaaHLaw3
namespace Go.Proofs.Ytnpilmjpinmgfaa
open Go.RowKit Go.Proofs.Ytnpilmjpinmgfaa.Tame
set_option maxHeartbeats 400000

set_option maxRecDepth 100000 in
set_option maxHeartbeats 2000000 in
theorem sorts_zero (k : Int) (b : Option Addr) (c : Nat) (w : World) (hbc : b = none → c = 0) :
    Calls Try.prog 7 #[.int .i64 k, .slice b 0 c] w fun e w' => e = .returned (.bool true) ∧ Below w.heap.size w w' := by
  obtain ⟨i0, hi0, hz0', hz1', hz2'⟩ := info_parts info4
  have H1 := Lib.hid (hsort_zero k b c w hbc)
  clear hbc
  go_enter Try.func7, Try.ntmps7
  go_wp2_with fail
  refine (H1.out).mono ?_
  rintro e w1 ⟨a2, c2, rfl, hb1⟩
  have HB1 := Lib.hid hb1
  clear hb1 H1
  go_wp2_with fail
  go_loop [7] (fun s7 => s7 = .int .i64 0) (fun _ => 0)
  case atStart => rfl
  case round =>
    subst hrel
    go_wp2_with (at_make; refine wpList_make_full _ rfl _ _ 61 rfl w1.heap.size 4 i0 (.bool false) 1 Try.underlying61 hi0 hz0' hz1' .i64 .i64 0 0 0 rfl rfl rfl rfl (by rw [hz2']; omega) (by unfold maxLen; omega) (Nat.le_refl _) ?_; intro w3 hown3 hgrow)
    have hw3 := Lib.hid ((Below.refl w1.heap.size w1).grown hgrow (Nat.le_refl _) (fun k hk => by cases hk))
    clear hown3 hgrow
    go_loop [9] (fun s9 => s9 = .int .i64 0) (fun _ => 0)
    case atStart => rfl
    case round =>
      subst hrel
      go_wp2_with fail
      refine (hawake_any _).mono ?_
      rintro e w9 ⟨rfl, hb9⟩
      go_wp2_with fail
      go_ret
      exact ⟨rfl, (HB1.out.trans (hw3.out.mono HB1.out.size)).trans (hb9.mono (by have := HB1.out.size; have := hw3.out.size; omega))⟩
end Go.Proofs.Ytnpilmjpinmgfaa
