/-
  WALK OF SortStableFunc AT NUMBERS BY A KEY. CONDITIONS: stated.
-/
import Derived.Test.YtgmlaimlcccmhaaISort7
namespace Go.Proofs.Ytgmlaimlcccmhaa
open Go.RowKit Go.Proofs.Ytgmlaimlcccmhaa.Tame
set_option maxHeartbeats 400000

theorem sortstable_any (key : Int → Int) (D : Int → Prop) (g n cap : Nat) (ad : Addr) (f : Fn) (w : World) (hn : n ≤ 1000000) (hr : RowAt w g n f w) (hkb : CmpOK key D g ad w) (hin : AllIn D n f) :
    Calls Try.prog 22 #[.slice (some ⟨g, 0, none⟩) n cap, .func (.func 23) #[] #[.pointer (some ad)]] w (SortPost key w g n 0 n f) := by
  have HR := Lib.hid hr
  have HKB := Lib.hid hkb
  have HIN := Lib.hid hin
  clear hr hkb hin
  go_enter Try.func22, Try.ntmps22
  go_wp2_with fail
  refine (stable_any key D g n cap ad f _ hn HR.out HKB.out HIN.out).mono ?_
  rintro e w1 ⟨rfl, h, hr1, hs1, ha1⟩
  have H1 := Lib.hid hr1
  have H2 := Lib.hid hs1
  have H3 := Lib.hid ha1
  clear hr1 hs1 ha1
  go_wp2_with fail
  go_end0
  exact ⟨rfl, h, H1.out, H2.out, H3.out⟩

theorem insertion_zero (b : Option Addr) (c : Nat) (cb : Value) (w : World) :
    Calls Try.prog 34 #[.slice b 0 c, .int .i64 0, .int .i64 0, cb] w fun e w' => e = .returned (.tuple #[]) ∧ w = w' := by
  go_enter Try.func34, Try.ntmps34
  go_wp2
  go_loop [8] (fun s8 => s8 = .int .i64 1) (fun _ => 0)
  case atStart => rfl
  case round =>
    subst hrel
    go_wp2
    go_end0
    exact ⟨rfl, rfl⟩
theorem stable_zero (b : Option Addr) (c : Nat) (cb : Value) (w : World) :
    Calls Try.prog 30 #[.slice b 0 c, .int .i64 0, cb] w fun e w' => e = .returned (.tuple #[]) ∧ w = w' := by
  go_enter Try.func30, Try.ntmps30
  go_wp2
  go_loop [7, 8] (fun s7 s8 => s7 = .int .i64 0 ∧ s8 = .int .i64 20) (fun _ _ => 0)
  case atStart => exact ⟨rfl, rfl⟩
  case round =>
    obtain ⟨rfl, rfl⟩ := hrel
    go_wp2_with fail
    refine (insertion_zero b c cb _).mono ?_
    rintro e w1 ⟨rfl, rfl⟩
    go_wp2_with fail
    go_loop [6] (fun s6 => s6 = .int .i64 20) (fun _ => 0)
    case atStart => rfl
    case round =>
      subst hrel
      go_wp2
      go_end0
      exact ⟨rfl, rfl⟩
theorem sortstable_zero (b : Option Addr) (c : Nat) (cb : Value) (w : World) :
    Calls Try.prog 22 #[.slice b 0 c, cb] w fun e w' => e = .returned (.tuple #[]) ∧ w = w' := by
  go_enter Try.func22, Try.ntmps22
  go_wp2_with fail
  refine (stable_zero b c cb _).mono ?_
  rintro e w1 ⟨rfl, rfl⟩
  go_wp2_with fail
  go_end0
  exact ⟨rfl, rfl⟩

end Go.Proofs.Ytgmlaimlcccmhaa
