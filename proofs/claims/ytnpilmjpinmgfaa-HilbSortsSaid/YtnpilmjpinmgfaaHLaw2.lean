/-
  WALKS OF THE LAW OF SORTED SQUARES (HilbSorts). CONDITIONS: stated.
-/
import Derived.Test.YtnpilmjpinmgfaaHSort11
import Derived.Test.YtnpilmjpinmgfaaHMatch
import Derived.Test.YtnpilmjpinmgfaaHLaw1
namespace Go.Proofs.Ytnpilmjpinmgfaa
open Go.RowKit Go.Proofs.Ytnpilmjpinmgfaa.Tame
set_option maxHeartbeats 400000

theorem sorts_long (k : Int) (b : Option Addr) (n cap : Nat) (w : World) (hn : 60 < n) (hm : n ≤ 9223372036854775807) :
    Calls Try.prog 7 #[.int .i64 k, .slice b n cap] w fun e w' => e = .returned (.bool true) ∧ Below w.heap.size w w' := by
  go_enter Try.func7, Try.ntmps7
  go_wp2_with fail
  refine (hawake_any _).mono ?_
  rintro e w1 ⟨rfl, hb1⟩
  go_wp2_with fail
  go_ret
  exact ⟨rfl, hb1⟩

set_option maxHeartbeats 1000000 in
theorem sorts_bad (k : Int) (b off n cap j : Nat) (f : Fn) (w : World) (hn : n ≤ 60) (hj : j < n) (hp : PtsAt w b off n f) (hbad : insB k (f j).1 (f j).2 = false) :
    Calls Try.prog 7 #[.int .i64 k, .slice (some ⟨b, off, none⟩) n cap] w fun e w' => e = .returned (.bool true) ∧ Below w.heap.size w w' := by
  have H1 := Lib.hid (hsort_no k b off n cap j f w (by omega) hj hp hbad)
  have HP := Lib.hid hp
  have HB := Lib.hid hbad
  clear hp hbad
  go_enter Try.func7, Try.ntmps7
  go_wp2_with fail
  refine (H1.out).mono ?_
  rintro e w1 ⟨rfl, hb1⟩
  go_wp2_with fail
  go_loopw [7] (fun s7 wr => ∃ i : Nat, i ≤ j ∧ s7 = .int .i64 i ∧ Below w.heap.size w wr) (fun s7 _ => n - (intOf s7).toNat)
  case atStart => exact ⟨0, by omega, rfl, hb1⟩
  case round =>
    obtain ⟨i, hi, rfl, hb⟩ := hrel
    clear hb1
    have hlt : i < n := by omega
    obtain ⟨c0, c1⟩ := HP.out.below hb i hlt
    cases hz : insB k (f i).1 (f i).2
    · have HZ := Lib.hid hz
      clear hz
      generalize f i = A at *
      go_wp2_with fail
      refine (refinside_any k A.1 A.2 _).mono ?_
      rintro e w2 ⟨rfl, hb2⟩
      rw [HZ.out]
      have hw := hb.trans (hb2.mono hb.size)
      clear hb2 c0 c1
      go_wp2_with fail
      refine (hawake_any _).mono ?_
      rintro e w3 ⟨rfl, hb3⟩
      go_wp2_with fail
      go_ret
      exact ⟨rfl, hw.trans (hb3.mono hw.size)⟩
    · have hij : i < j := by
        rcases Nat.lt_or_ge i j with h | h
        · exact h
        · have : i = j := by omega
          rw [this, HB.out] at hz; cases hz
      have HZ := Lib.hid hz
      clear hz
      generalize f i = A at *
      go_wp2_with fail
      refine (refinside_any k A.1 A.2 _).mono ?_
      rintro e w2 ⟨rfl, hb2⟩
      rw [HZ.out]
      have hw := hb.trans (hb2.mono hb.size)
      clear hb2 c0 c1
      go_wp2_with fail
      go_roundw
      case rel => exact ⟨i + 1, hij, by go_num, hw⟩
      case measure => simp [intOf]; omega
end Go.Proofs.Ytnpilmjpinmgfaa
