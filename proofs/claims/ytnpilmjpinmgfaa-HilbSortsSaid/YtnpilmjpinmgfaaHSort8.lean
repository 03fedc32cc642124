/-
  WALKS OF SortStableFunc, IndexFunc, ContainsFunc AT SQUARES. CONDITIONS: stated.
-/
import Derived.Test.YtnpilmjpinmgfaaHSort7
namespace Go.Proofs.Ytnpilmjpinmgfaa
open Go.RowKit Go.Proofs.Ytnpilmjpinmgfaa.Tame
set_option maxHeartbeats 400000

theorem sortstable_any (k g n cap kb : Nat) (f : Fn) (w : World) (hk20 : k ≤ 20) (hn : n ≤ 1000000) (hne : kb ≠ g) (hr : RowAt w g n f w) (hkb : w.heap[kb]? = some (.cells #[.int .i64 k] 3)) (hin : AllIn k n f) :
    Calls Try.prog 38 #[.slice (some ⟨g, 0, none⟩) n cap, .func (.func 39) #[] #[.pointer (some ⟨kb, 0, none⟩)]] w (SortPost k w g n 0 n f) := by
  have HR := Lib.hid hr
  have HKB := Lib.hid hkb
  have HIN := Lib.hid hin
  clear hr hkb hin
  go_enter Try.func38, Try.ntmps38
  go_wp2_with fail
  refine (stable_any k g n cap kb f _ hk20 hn hne HR.out HKB.out HIN.out).mono ?_
  rintro e w1 ⟨rfl, h, hr1, hs1, ha1⟩
  have H1 := Lib.hid hr1
  have H2 := Lib.hid hs1
  have H3 := Lib.hid ha1
  clear hr1 hs1 ha1
  go_wp2_with fail
  go_end0
  exact ⟨rfl, h, H1.out, H2.out, H3.out⟩

theorem insertion_zero (b : Option Addr) (c : Nat) (cb : Value) (w : World) :
    Calls Try.prog 44 #[.slice b 0 c, .int .i64 0, .int .i64 0, cb] w fun e w' => e = .returned (.tuple #[]) ∧ w = w' := by
  go_enter Try.func44, Try.ntmps44
  go_wp2
  go_loop [8] (fun s8 => s8 = .int .i64 1) (fun _ => 0)
  case atStart => rfl
  case round =>
    subst hrel
    go_wp2
    go_end0
    exact ⟨rfl, rfl⟩
theorem stable_zero (b : Option Addr) (c : Nat) (cb : Value) (w : World) :
    Calls Try.prog 42 #[.slice b 0 c, .int .i64 0, cb] w fun e w' => e = .returned (.tuple #[]) ∧ w = w' := by
  go_enter Try.func42, Try.ntmps42
  go_wp2
  go_loop [7, 8] (fun s7 s8 => s7 = .int .i64 0 ∧ s8 = .int .i64 20) (fun _ _ => 0)
  case atStart => exact ⟨rfl, rfl⟩
  case round =>
    obtain ⟨rfl, rfl⟩ := hrel
    go_wp2_with fail
    refine (insertion_zero b c cb _).mono ?_
    rintro e w1 ⟨rfl, rfl⟩
    go_wp2_with fail
    go_loop [6] (fun s6 => s6 = .int .i64 20) (fun _ => 0)
    case atStart => rfl
    case round =>
      subst hrel
      go_wp2
      go_end0
      exact ⟨rfl, rfl⟩
theorem sortstable_zero (b : Option Addr) (c : Nat) (cb : Value) (w : World) :
    Calls Try.prog 38 #[.slice b 0 c, cb] w fun e w' => e = .returned (.tuple #[]) ∧ w = w' := by
  go_enter Try.func38, Try.ntmps38
  go_wp2_with fail
  refine (stable_zero b c cb _).mono ?_
  rintro e w1 ⟨rfl, rfl⟩
  go_wp2_with fail
  go_end0
  exact ⟨rfl, rfl⟩

/-- Points that came in: they lie from a place on. -/
def PtsAt (w : World) (b off n : Nat) (f : Fn) : Prop := ∀ i, i < n → w.cell? ⟨b, off + i * 2, none⟩ = some (.int .i64 (f i).1) ∧ w.cell? ⟨b, off + i * 2 + 1, none⟩ = some (.int .i64 (f i).2)
theorem PtsAt.below {w w' : World} {b off n : Nat} {f : Fn} (h : PtsAt w b off n f) (hb : Below w.heap.size w w') : PtsAt w' b off n f := fun i hi =>
  ⟨(hb.cell (p := ⟨b, off + i * 2, none⟩) (World.block_lt_of_cell? w _ (h i hi).1)).trans (h i hi).1, (hb.cell (p := ⟨b, off + i * 2 + 1, none⟩) (World.block_lt_of_cell? w _ (h i hi).2)).trans (h i hi).2⟩

theorem indexfunc_all (k : Int) (b off n cap kb : Nat) (f : Fn) (w : World) (hn : n ≤ 1000000) (hp : PtsAt w b off n f) (hkb : w.heap[kb]? = some (.cells #[.int .i64 k] 3)) (hin : ∀ i, i < n → insB k (f i).1 (f i).2 = true) :
    Calls Try.prog 41 #[.slice (some ⟨b, off, none⟩) n cap, .func (.func 36) #[] #[.pointer (some ⟨kb, 0, none⟩)]] w fun e w' => e = .returned (.int .i64 (-1)) ∧ Below w.heap.size w w' := by
  have HP := Lib.hid hp
  have HKB := Lib.hid hkb
  have HIN := Lib.hid hin
  clear hp hkb hin
  go_enter Try.func41, Try.ntmps41
  go_wp2
  go_loopw [8] (fun s8 wr => ∃ i : Nat, i ≤ n ∧ s8 = .int .i64 i ∧ Below w.heap.size w wr) (fun s8 _ => n - (intOf s8).toNat)
  case atStart => exact ⟨0, by omega, rfl, Below.refl _ _⟩
  case round =>
    obtain ⟨i, hi, rfl, hb⟩ := hrel
    by_cases hlt : i < n
    · obtain ⟨c0, c1⟩ := HP.out.below hb i hlt
      have hz := HIN.out i hlt
      have HZ := Lib.hid hz
      clear hz
      generalize f i = A at *
      go_wp2_with fail
      refine (pred_any k A.1 A.2 kb _ (keep2 hb HKB.out)).mono ?_
      rintro e w1 ⟨rfl, hb1⟩
      rw [HZ.out]
      have hw := hb.trans (hb1.mono hb.size)
      clear hb1 c0 c1
      go_wp2_with fail
      go_roundw
      case rel => exact ⟨i + 1, hlt, by go_num, hw⟩
      case measure => simp [intOf]; omega
    · go_wp2_with fail
      go_ret
      exact ⟨rfl, hb⟩
theorem indexfunc_some (k : Int) (b off n cap kb j : Nat) (f : Fn) (w : World) (hn : n ≤ 1000000) (hj : j < n) (hp : PtsAt w b off n f) (hkb : w.heap[kb]? = some (.cells #[.int .i64 k] 3)) (hbad : insB k (f j).1 (f j).2 = false) :
    Calls Try.prog 41 #[.slice (some ⟨b, off, none⟩) n cap, .func (.func 36) #[] #[.pointer (some ⟨kb, 0, none⟩)]] w fun e w' => (∃ r : Nat, e = .returned (.int .i64 r)) ∧ Below w.heap.size w w' := by
  have HP := Lib.hid hp
  have HKB := Lib.hid hkb
  have HBAD := Lib.hid hbad
  clear hp hkb hbad
  go_enter Try.func41, Try.ntmps41
  go_wp2
  go_loopw [8] (fun s8 wr => ∃ i : Nat, i ≤ j ∧ s8 = .int .i64 i ∧ Below w.heap.size w wr) (fun s8 _ => n - (intOf s8).toNat)
  case atStart => exact ⟨0, by omega, rfl, Below.refl _ _⟩
  case round =>
    obtain ⟨i, hi, rfl, hb⟩ := hrel
    have hlt : i < n := by omega
    obtain ⟨c0, c1⟩ := HP.out.below hb i hlt
    cases hz : insB k (f i).1 (f i).2
    · have HZ := Lib.hid hz
      clear hz
      generalize f i = A at *
      go_wp2_with fail
      refine (pred_any k A.1 A.2 kb _ (keep2 hb HKB.out)).mono ?_
      rintro e w1 ⟨rfl, hb1⟩
      rw [HZ.out]
      have hw := hb.trans (hb1.mono hb.size)
      clear hb1 c0 c1
      go_wp2_with fail
      go_ret
      exact ⟨⟨i, rfl⟩, hw⟩
    · have hij : i < j := by
        rcases Nat.lt_or_ge i j with h | h
        · exact h
        · have : i = j := by omega
          rw [this, HBAD.out] at hz; cases hz
      have HZ := Lib.hid hz
      clear hz
      generalize f i = A at *
      go_wp2_with fail
      refine (pred_any k A.1 A.2 kb _ (keep2 hb HKB.out)).mono ?_
      rintro e w1 ⟨rfl, hb1⟩
      rw [HZ.out]
      have hw := hb.trans (hb1.mono hb.size)
      clear hb1 c0 c1
      go_wp2_with fail
      go_roundw
      case rel => exact ⟨i + 1, hij, by go_num, hw⟩
      case measure => simp [intOf]; omega
end Go.Proofs.Ytnpilmjpinmgfaa
