/-
  THE WALK OF THE INSERTION SORT OF NUMBERS BY A KEY. CONDITIONS: stated.
-/
import Derived.Test.YtgmlaimlcccmhaaIKey
namespace Go.Proofs.Ytgmlaimlcccmhaa
open Go.RowKit Go.Proofs.Ytgmlaimlcccmhaa.Tame
set_option maxHeartbeats 400000

def AllIn (D : Int → Prop) (n : Nat) (f : Fn) : Prop := ∀ x, x < n → D (f x)
theorem AllIn.sw {D : Int → Prop} {n a b : Nat} {f h : Fn} (hf : AllIn D n f) (hs : Sw a b f h) (hb : b ≤ n) : AllIn D n h := by
  intro x hx
  by_cases hab : a ≤ x ∧ x < b
  · obtain ⟨y, _, hy, e⟩ := hs.from x hab
    rw [e]; exact hf y (by omega)
  · rw [hs.out x (by omega)]; exact hf x hx
/-- In order on [a, b). -/
def Asc (key : Int → Int) (a b : Nat) (f : Fn) : Prop := ∀ x y, a ≤ x → x < y → y < b → key (f x) ≤ key (f y)
/-- What the inner loop of the insertion sort keeps. -/
def InsI (key : Int → Int) (a i j : Nat) (h : Fn) : Prop := ∀ x y, a ≤ x → x < y → y ≤ i → y ≠ j → key (h x) ≤ key (h y)
theorem InsI.start {key : Int → Int} {a i : Nat} {h : Fn} (hs : Asc key a i h) : InsI key a i i h := fun x y h1 h2 h3 h4 => hs x y h1 h2 (by omega)
theorem InsI.done {key : Int → Int} {a i j : Nat} {h : Fn} (hs : InsI key a i j h) (hj : j ≤ i) (hst : j ≤ a ∨ key (h (j - 1)) ≤ key (h j)) : Asc key a (i + 1) h := by
  intro x y h1 h2 h3
  by_cases hy : y = j
  · subst hy
    rcases hst with hst | hst
    · omega
    · by_cases hx : x = y - 1
      · rw [hx]; exact hst
      · exact Int.le_trans (hs x (y - 1) h1 (by omega) (by omega) (by omega)) hst
  · exact hs x y h1 h2 (by omega) hy
theorem InsI.step {key : Int → Int} {a i j : Nat} {h : Fn} (hs : InsI key a i (j + 1) h) (ha : a ≤ j) (hj : j + 1 ≤ i) (hlt : key (h (j + 1)) < key (h j)) : InsI key a i j (swpF h (j + 1) j) := by
  intro x y h1 h2 h3 h4
  unfold swpF
  by_cases hy : y = j + 1
  · subst hy
    rw [if_pos rfl, if_neg (by omega)]
    by_cases hx : x = j
    · rw [if_pos hx]; omega
    · rw [if_neg hx]; exact hs x j h1 (by omega) (by omega) (by omega)
  · rw [if_neg hy, if_neg h4]
    by_cases hx : x = j + 1
    · rw [if_pos hx]; exact hs j y ha (by omega) h3 hy
    · rw [if_neg hx]
      by_cases hx2 : x = j
      · rw [if_pos hx2]; exact hs (j + 1) y (by omega) (by omega) h3 hy
      · rw [if_neg hx2]; exact hs x y h1 h2 h3 hy

/-- What a sort of [a, b) leaves. -/
def SortPost (key : Int → Int) (w : World) (g n a b : Nat) (f : Fn) (e : Ending) (w' : World) : Prop := e = .returned (.tuple #[]) ∧ ∃ h, RowAt w g n h w' ∧ Sw a b f h ∧ Asc key a b h

theorem insertion_any (key : Int → Int) (D : Int → Prop) (g n cap a b : Nat) (p : Addr) (f : Fn) (w : World) (hab : a ≤ b) (hb : b ≤ n) (hn : n ≤ 1000000) (hr : RowAt w g n f w) (hkb : CmpOK key D g p w) (hin : AllIn D n f) :
    Calls Try.prog 34 #[.slice (some ⟨g, 0, none⟩) n cap, .int .i64 a, .int .i64 b, .func (.func 23) #[] #[.pointer (some p)]] w (SortPost key w g n a b f) := by
  have HR := Lib.hid hr
  have HKB := Lib.hid hkb
  have HIN := Lib.hid hin
  clear hr hkb hin
  go_enter Try.func34, Try.ntmps34
  go_wp2
  go_loopw [8] (fun s8 wr => ∃ (i : Nat) (h : Fn), s8 = .int .i64 i ∧ a + 1 ≤ i ∧ i ≤ b + 1 ∧ RowAt w g n h wr ∧ Sw a b f h ∧ Hid (Asc key a i h)) (fun s8 _ => b - (intOf s8).toNat)
  case atStart => exact ⟨a + 1, f, by go_num, by omega, by omega, HR.out, .refl f, Lib.hid (fun x y h1 h2 h3 => by omega)⟩
  case round =>
    obtain ⟨i, h, rfl, hi1, hi2, hrow, hsw, hasc⟩ := hrel
    have HRow := Lib.hid hrow
    have HSw := Lib.hid hsw
    clear hrow hsw HR
    obtain ⟨wo, rfl⟩ : ∃ wo : World, wo = wr := ⟨_, rfl⟩
    by_cases hlt : i < b
    · go_wp2
      go_loopw [9] (fun s9 wr => ∃ (j : Nat) (h : Fn), s9 = .int .i64 j ∧ a ≤ j ∧ j ≤ i ∧ RowAt w g n h wr ∧ Sw a b f h ∧ Hid (InsI key a i j h)) (fun s9 _ => (intOf s9).toNat)
      case atStart => exact ⟨i, h, rfl, by omega, Nat.le_refl _, HRow.out, HSw.out, Lib.hid (InsI.start hasc.out)⟩
      case round =>
        clear HRow HSw hasc
        obtain ⟨j, h, rfl, hj1, hj2, hrow, hsw, hins⟩ := hrel
        have HRow := Lib.hid hrow
        have HSw := Lib.hid hsw
        by_cases hja : a < j
        · obtain ⟨jp, rfl⟩ : ∃ jp, j = jp + 1 := ⟨j - 1, by omega⟩
          obtain ⟨hk, cur, hg, hp⟩ := hrow
          have p1 := hp (jp + 1) (by omega)
          have p2 := hp jp (by omega)
          have q1 := HIN.out.sw hsw hb (jp + 1) (by omega)
          have q2 := HIN.out.sw hsw hb jp (by omega)
          clear hk hp hsw
          generalize hA : h (jp + 1) = A at *
          generalize hB : h jp = B at *
          have HA := Lib.hid hA
          have HB := Lib.hid hB
          clear hA hB
          have hwp : IntKind.i64.wrap (jp : Int) = (jp : Int) := IntWalk.i64_in _ (by omega)
          have z1 : (a : Int) < (jp : Int) + 1 := by omega
          have z2 : (jp : Int) + 1 < (n : Int) := by omega
          have z3 : (jp : Int) < (n : Int) := by omega
          have z4 : (0 : Int) ≤ (jp : Int) + 1 := by omega
          have z5 : ((jp : Int) + 1).toNat = jp + 1 := by omega
          go_upto_region 4 with (fail)
          refine draws_hid (by kernel_rfl) (by kernel_rfl) (by kernel_rfl) (fun W hW ops hops => ?_)
          subst hW
          have o3 : (ops[3]?).bind (fun x => x.dst) = some 21 := by rw [hops]; rfl
          clear hops
          have c0 : ∀ xl : Later W [], xl.w.cell? ⟨g, jp + 1, none⟩ = some (.int .i64 A) := fun xl => cell_of_block (Later.at0 hg xl) p1
          have c2 : ∀ xl : Later W [], xl.w.cell? ⟨g, jp, none⟩ = some (.int .i64 B) := fun xl => cell_of_block (Later.at0 hg xl) p2
          repeat (refine walkT_step (fun K hK => ?_); go_simp; first | (refine hK _ _ ?_; clear hK K) | (refine ⟨_, fun xl => HKB.out xl.w A B (HRow.out.kept.grow (xl.h.below (Nat.le_refl _) (fun d hd => by cases hd))) q1 q2, ?_⟩; refine hK _ _ ?_; clear hK K))
          refine walkT_nil ?_
          intro w5 hc
          have HRow5 := Lib.hid (HRow.out.below hc.below)
          have hcn := cmpI_neg (key A) (key B)
          have HCN := Lib.hid hcn
          generalize cmpI (key A) (key B) = c at *
          have hg5 := hc.at0 hg
          clear c0 c2 o3 hc hcn
          by_cases hneg : c < 0
          · have hkl := HCN.out.1 hneg
            have HKL := Lib.hid hkl
            clear hkl
            have c0 : w5.cell? ⟨g, jp + 1, none⟩ = some (.int .i64 A) := cell_of_block hg5 p1
            have c2 : w5.cell? ⟨g, jp, none⟩ = some (.int .i64 B) := cell_of_block hg5 p2
            have d0 : ∀ j, w5.frozen? ⟨g, j, none⟩ = false := fun j => free_of_block hg5
            clear hg hg5 p1 p2
            go_upto_region 6 with (fail)
            go_big_region
            have hsw2 := RowAt.swap HRow5.out (i := jp + 1) (j := jp) (by omega) (by omega)
            rw [HA.out, HB.out] at hsw2
            have HS := Lib.hid hsw2
            clear hsw2 c0 c2 d0
            go_wp2
            go_roundw
            case rel => exact ⟨jp, swpF h (jp + 1) jp, rfl, by omega, by omega, HS.out, .step (by omega) (by omega) (by omega) (by omega) HSw.out, Lib.hid (InsI.step hins.out (by omega) hj2 (by rw [HA.out, HB.out]; exact HKL.out))⟩
            case measure => simp [intOf]
          · clear hg hg5 p1 p2
            go_wp2
            go_roundw
            case rel => exact ⟨i + 1, h, by go_num, by omega, by omega, HRow5.out, HSw.out, Lib.hid (InsI.done hins.out hj2 (.inr (by
              rw [Nat.add_sub_cancel, HA.out, HB.out]
              have := HCN.out
              omega)))⟩
            case measure => simp [intOf]; omega
        · have hz1 : ¬ ((a : Int) < (j : Int)) := by omega
          have hz2 : decide ((a : Int) < (j : Int)) = false := decide_eq_false hz1
          clear hrow hsw
          go_upto_region 4 with (fail)
          refine draws_hid (by kernel_rfl) (by kernel_rfl) (by kernel_rfl) (fun W hW ops hops => ?_)
          subst hW
          have o3 : (ops[3]?).bind (fun x => x.dst) = some 21 := by rw [hops]; rfl
          clear hops
          repeat (refine walkT_step (fun K hK => ?_); go_simp; (refine hK _ _ ?_; clear hK K))
          refine walkT_nil ?_
          intro w5 hc
          have HRow5 := Lib.hid (HRow.out.below hc.below)
          clear hc o3
          go_wp2
          go_roundw
          case rel => exact ⟨i + 1, h, by go_num, by omega, by omega, HRow5.out, HSw.out, Lib.hid (InsI.done hins.out hj2 (.inl (by omega)))⟩
          case measure => simp [intOf]; omega
    · have HA2 := Lib.hid (fun x y (h1 : a ≤ x) (h2 : x < y) (h3 : y < b) => hasc.out x y h1 h2 (by omega))
      clear hasc
      go_wp2
      go_end0
      exact ⟨rfl, h, HRow.out, HSw.out, HA2.out⟩
end Go.Proofs.Ytgmlaimlcccmhaa
