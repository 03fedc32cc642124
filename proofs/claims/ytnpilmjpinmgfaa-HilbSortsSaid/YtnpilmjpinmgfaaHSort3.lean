/-
  THE WALK OF THE INSERTION SORT OF SQUARES BY THEIR INDEX. CONDITIONS: stated.
-/
import Derived.Test.YtnpilmjpinmgfaaHSort2
namespace Go.Proofs.Ytnpilmjpinmgfaa
open Go.RowKit Go.Proofs.Ytnpilmjpinmgfaa.Tame
set_option maxHeartbeats 400000

/-- A square of order k. -/
def InP (k : Nat) (p : Int × Int) : Prop := 0 ≤ p.1 ∧ p.1 < 2 ^ k ∧ 0 ≤ p.2 ∧ p.2 < 2 ^ k
def keyP (k : Nat) (p : Int × Int) : Int := hix k p.1 p.2
def AllIn (k n : Nat) (f : Fn) : Prop := ∀ x, x < n → InP k (f x)
theorem AllIn.sw {k n a b : Nat} {f h : Fn} (hf : AllIn k n f) (hs : Sw a b f h) (hb : b ≤ n) : AllIn k n h := by
  intro x hx
  by_cases hab : a ≤ x ∧ x < b
  · obtain ⟨y, _, hy, e⟩ := hs.from x hab
    rw [e]; exact hf y (by omega)
  · rw [hs.out x (by omega)]; exact hf x hx
/-- In order on [a, b). -/
def Asc (k a b : Nat) (f : Fn) : Prop := ∀ x y, a ≤ x → x < y → y < b → keyP k (f x) ≤ keyP k (f y)
/-- What the inner loop of the insertion sort keeps. -/
def InsI (k a i j : Nat) (h : Fn) : Prop := ∀ x y, a ≤ x → x < y → y ≤ i → y ≠ j → keyP k (h x) ≤ keyP k (h y)
theorem InsI.start {k a i : Nat} {h : Fn} (hs : Asc k a i h) : InsI k a i i h := fun x y h1 h2 h3 h4 => hs x y h1 h2 (by omega)
theorem InsI.done {k a i j : Nat} {h : Fn} (hs : InsI k a i j h) (hj : j ≤ i) (hst : j ≤ a ∨ keyP k (h (j - 1)) ≤ keyP k (h j)) : Asc k a (i + 1) h := by
  intro x y h1 h2 h3
  by_cases hy : y = j
  · subst hy
    rcases hst with hst | hst
    · omega
    · by_cases hx : x = y - 1
      · rw [hx]; exact hst
      · exact Int.le_trans (hs x (y - 1) h1 (by omega) (by omega) (by omega)) hst
  · exact hs x y h1 h2 (by omega) hy
theorem InsI.step {k a i j : Nat} {h : Fn} (hs : InsI k a i (j + 1) h) (ha : a ≤ j) (hj : j + 1 ≤ i) (hlt : keyP k (h (j + 1)) < keyP k (h j)) : InsI k a i j (swpF h (j + 1) j) := by
  intro x y h1 h2 h3 h4
  unfold swpF
  by_cases hy : y = j + 1
  · subst hy
    rw [if_pos rfl, if_neg (by omega)]
    by_cases hx : x = j
    · rw [if_pos hx]; omega
    · rw [if_neg hx]; exact hs x j h1 (by omega) (by omega) (by omega)
  · rw [if_neg hy, if_neg h4]
    by_cases hx : x = j + 1
    · rw [if_pos hx]; exact hs j y ha (by omega) h3 hy
    · rw [if_neg hx]
      by_cases hx2 : x = j
      · rw [if_pos hx2]; exact hs (j + 1) y (by omega) (by omega) h3 hy
      · rw [if_neg hx2]; exact hs x y h1 h2 h3 hy

theorem cmpI_neg (x y : Int) : cmpI x y < 0 ↔ x < y := by
  unfold cmpI
  split
  · simp_all
  · split <;> simp_all
/-- What a sort of [a, b) leaves. -/
def SortPost (k : Nat) (w : World) (g n a b : Nat) (f : Fn) (e : Ending) (w' : World) : Prop := e = .returned (.tuple #[]) ∧ ∃ h, RowAt w g n h w' ∧ Sw a b f h ∧ Asc k a b h

theorem insertion_any (k g n cap a b kb : Nat) (f : Fn) (w : World) (hk20 : k ≤ 20) (hab : a ≤ b) (hb : b ≤ n) (hn : n ≤ 1000000) (hr : RowAt w g n f w) (hkb : w.heap[kb]? = some (.cells #[.int .i64 k] 3)) (hne : kb ≠ g) (hin : AllIn k n f) :
    Calls Try.prog 44 #[.slice (some ⟨g, 0, none⟩) n cap, .int .i64 a, .int .i64 b, .func (.func 39) #[] #[.pointer (some ⟨kb, 0, none⟩)]] w (SortPost k w g n a b f) := by
  have HR := Lib.hid hr
  have HKB := Lib.hid hkb
  have HIN := Lib.hid hin
  clear hr hkb hin
  go_enter Try.func44, Try.ntmps44
  go_wp2
  go_loopw [8] (fun s8 wr => ∃ (i : Nat) (h : Fn), s8 = .int .i64 i ∧ a + 1 ≤ i ∧ i ≤ b + 1 ∧ RowAt w g n h wr ∧ Sw a b f h ∧ Hid (Asc k a i h)) (fun s8 _ => b - (intOf s8).toNat)
  case atStart => exact ⟨a + 1, f, by go_num, by omega, by omega, HR.out, .refl f, Lib.hid (fun x y h1 h2 h3 => by omega)⟩
  case round =>
    obtain ⟨i, h, rfl, hi1, hi2, hrow, hsw, hasc⟩ := hrel
    have HRow := Lib.hid hrow
    have HSw := Lib.hid hsw
    clear hrow hsw HR
    obtain ⟨wo, rfl⟩ : ∃ wo : World, wo = wr := ⟨_, rfl⟩
    by_cases hlt : i < b
    · go_wp2
      go_loopw [9] (fun s9 wr => ∃ (j : Nat) (h : Fn), s9 = .int .i64 j ∧ a ≤ j ∧ j ≤ i ∧ RowAt w g n h wr ∧ Sw a b f h ∧ Hid (InsI k a i j h)) (fun s9 _ => (intOf s9).toNat)
      case atStart => exact ⟨i, h, rfl, by omega, Nat.le_refl _, HRow.out, HSw.out, Lib.hid (InsI.start hasc.out)⟩
      case round =>
        clear HRow HSw hasc
        obtain ⟨j, h, rfl, hj1, hj2, hrow, hsw, hins⟩ := hrel
        have HRow := Lib.hid hrow
        have HSw := Lib.hid hsw
        by_cases hja : a < j
        · obtain ⟨jp, rfl⟩ : ∃ jp, j = jp + 1 := ⟨j - 1, by omega⟩
          obtain ⟨hk, cur, hg, hp⟩ := hrow
          have p1 := hp (jp + 1) (by omega)
          have p2 := hp jp (by omega)
          have hkw := HRow.out.other HKB.out hne
          have q1 := HIN.out.sw hsw hb (jp + 1) (by omega)
          have q2 := HIN.out.sw hsw hb jp (by omega)
          clear hk hp hsw
          unfold InP at q1 q2
          generalize hA : h (jp + 1) = A at *
          generalize hB : h jp = B at *
          have HA := Lib.hid hA
          have HB := Lib.hid hB
          clear hA hB
          have hwp : IntKind.i64.wrap (jp : Int) = (jp : Int) := IntWalk.i64_in _ (by omega)
          have z1 : (a : Int) < (jp : Int) + 1 := by omega
          have z2 : (jp : Int) + 1 < (n : Int) := by omega
          have z3 : (jp : Int) < (n : Int) := by omega
          have z4 : (0 : Int) ≤ (jp : Int) + 1 := by omega
          have z5 : ((jp : Int) + 1).toNat = jp + 1 := by omega
          go_upto_region 4 with (fail)
          refine draws_hid (by kernel_rfl) (by kernel_rfl) (by kernel_rfl) (fun W hW ops hops => ?_)
          subst hW
          have o3 : (ops[3]?).bind (fun x => x.dst) = some 21 := by rw [hops]; rfl
          clear hops
          have c0 : ∀ xl : Later W [], xl.w.cell? ⟨g, (jp + 1) * 2, none⟩ = some (.int .i64 A.1) := fun xl => cell_of_block (Later.at0 hg xl) p1.1
          have c1 : ∀ xl : Later W [], xl.w.cell? ⟨g, (jp + 1) * 2 + 1, none⟩ = some (.int .i64 A.2) := fun xl => cell_of_block (Later.at0 hg xl) p1.2
          have c2 : ∀ xl : Later W [], xl.w.cell? ⟨g, jp * 2, none⟩ = some (.int .i64 B.1) := fun xl => cell_of_block (Later.at0 hg xl) p2.1
          have c3 : ∀ xl : Later W [], xl.w.cell? ⟨g, jp * 2 + 1, none⟩ = some (.int .i64 B.2) := fun xl => cell_of_block (Later.at0 hg xl) p2.2
          repeat (refine walkT_step (fun K hK => ?_); go_simp; first | (refine hK _ _ ?_; clear hK K) | (refine ⟨_, fun xl => cmp_any k _ _ _ _ kb _ (Later.at0 hkw xl) hk20 q1 q2, ?_⟩; refine hK _ _ ?_; clear hK K))
          refine walkT_nil ?_
          intro w5 hc
          have HRow5 := Lib.hid (HRow.out.below hc.below)
          have hcn := cmpI_neg (hix k A.1 A.2) (hix k B.1 B.2)
          have HCN := Lib.hid hcn
          generalize cmpI (hix k A.1 A.2) (hix k B.1 B.2) = c at *
          have hg5 := hc.at0 hg
          clear c0 c1 c2 c3 o3 hc hkw hcn
          by_cases hneg : c < 0
          · have hkl := HCN.out.1 hneg
            have HKL := Lib.hid hkl
            clear hkl
            have c0 : w5.cell? ⟨g, (jp + 1) * 2, none⟩ = some (.int .i64 A.1) := cell_of_block hg5 p1.1
            have c1 : w5.cell? ⟨g, (jp + 1) * 2 + 1, none⟩ = some (.int .i64 A.2) := cell_of_block hg5 p1.2
            have c2 : w5.cell? ⟨g, jp * 2, none⟩ = some (.int .i64 B.1) := cell_of_block hg5 p2.1
            have c3 : w5.cell? ⟨g, jp * 2 + 1, none⟩ = some (.int .i64 B.2) := cell_of_block hg5 p2.2
            have d0 : ∀ j, w5.frozen? ⟨g, j, none⟩ = false := fun j => free_of_block hg5
            clear hg hg5 p1 p2
            go_upto_region 6 with (fail)
            go_big_region
            have hsw2 := RowAt.swap HRow5.out (i := jp + 1) (j := jp) (by omega) (by omega) (by omega)
            rw [HA.out, HB.out] at hsw2
            have HS := Lib.hid hsw2
            clear hsw2 c0 c1 c2 c3 d0
            go_wp2
            go_roundw
            case rel => exact ⟨jp, swpF h (jp + 1) jp, rfl, by omega, by omega, HS.out, .step (by omega) (by omega) (by omega) (by omega) HSw.out, Lib.hid (InsI.step hins.out (by omega) hj2 (by unfold keyP; rw [HA.out, HB.out]; exact HKL.out))⟩
            case measure => simp [intOf]
          · clear hg hg5 p1 p2
            go_wp2
            go_roundw
            case rel => exact ⟨i + 1, h, by go_num, by omega, by omega, HRow5.out, HSw.out, Lib.hid (InsI.done hins.out hj2 (.inr (by
              rw [Nat.add_sub_cancel, HA.out, HB.out]
              have := HCN.out
              unfold keyP
              omega)))⟩
            case measure => simp [intOf]; omega
        · have hz1 : ¬ ((a : Int) < (j : Int)) := by omega
          have hz2 : decide ((a : Int) < (j : Int)) = false := decide_eq_false hz1
          clear hrow hsw
          go_upto_region 4 with (fail)
          refine draws_hid (by kernel_rfl) (by kernel_rfl) (by kernel_rfl) (fun W hW ops hops => ?_)
          subst hW
          have o3 : (ops[3]?).bind (fun x => x.dst) = some 21 := by rw [hops]; rfl
          clear hops
          repeat (refine walkT_step (fun K hK => ?_); go_simp; (refine hK _ _ ?_; clear hK K))
          refine walkT_nil ?_
          intro w5 hc
          have HRow5 := Lib.hid (HRow.out.below hc.below)
          clear hc o3
          go_wp2
          go_roundw
          case rel => exact ⟨i + 1, h, by go_num, by omega, by omega, HRow5.out, HSw.out, Lib.hid (InsI.done hins.out hj2 (.inl (by omega)))⟩
          case measure => simp [intOf]; omega
    · have HA2 := Lib.hid (fun x y (h1 : a ≤ x) (h2 : x < y) (h3 : y < b) => hasc.out x y h1 h2 (by omega))
      clear hasc
      go_wp2
      go_end0
      exact ⟨rfl, h, HRow.out, HSw.out, HA2.out⟩
end Go.Proofs.Ytnpilmjpinmgfaa
