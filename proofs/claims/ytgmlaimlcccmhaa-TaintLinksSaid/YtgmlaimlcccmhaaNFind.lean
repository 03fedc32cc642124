/-
  A LINK IS LOOKED FOR BY HALVES: BinarySearchFunc, find. CONDITIONS: the links rise.
-/
import Derived.Test.YtgmlaimlcccmhaaNSorted
namespace Go.Proofs.Ytgmlaimlcccmhaa
open Go.RowKit Go.Proofs.Ytgmlaimlcccmhaa.Tame
set_option maxHeartbeats 400000

def Rise (nl : Nat) (ls : Ls) : Prop := ∀ x y, x < y → y < nl → LtL (ls x) (ls y)
theorem LtL.trans {x y z : Lk} (h1 : LtL x y) (h2 : LtL y z) : LtL x z := by unfold LtL at *; omega
theorem SortOK.rise {nr nl : Nat} {ls : Ls} (h : SortOK nr nl ls) : Rise nl ls := by
  intro x y hxy hy
  obtain ⟨d, rfl⟩ : ∃ d, y = x + 1 + d := ⟨y - x - 1, by omega⟩
  clear hxy
  induction d with
  | zero => have := (h (x + 1) hy).2.2.2.2.2 (by omega); rwa [Nat.add_sub_cancel] at this
  | succ d ih =>
    have h1 := ih (by omega)
    have h2 := (h (x + 1 + (d + 1)) hy).2.2.2.2.2 (by omega)
    have e : x + 1 + (d + 1) - 1 = x + 1 + d := by omega
    rw [e] at h2
    exact h1.trans h2
/-- A link stands before these ends. -/
def Bef (x : Lk) (f t : Int) : Prop := x.a < f ∨ (x.a = f ∧ x.b < t)
def IsL (x : Lk) (f t : Int) : Prop := x.a = f ∧ x.b = t
theorem Rise.bef {nl : Nat} {ls : Ls} (h : Rise nl ls) {x y : Nat} {f t : Int} (hxy : x ≤ y) (hy : y < nl) (hb : Bef (ls y) f t) : Bef (ls x) f t := by
  by_cases e : x = y
  · rw [e]; exact hb
  · have := h x y (by omega) hy
    unfold Bef LtL at *; omega
theorem Rise.one {nl : Nat} {ls : Ls} (h : Rise nl ls) {x y : Nat} {f t : Int} (hx : x < nl) (hy : y < nl) (h1 : IsL (ls x) f t) (h2 : IsL (ls y) f t) : x = y := by
  unfold IsL at *
  rcases Nat.lt_trichotomy x y with c | c | c
  · have := h x y c hy; unfold LtL at this; omega
  · exact c
  · have := h y x c hx; unfold LtL at this; omega
def FindPost (w : World) (nl : Nat) (ls : Ls) (f t : Int) (e : Ending) (w' : World) : Prop := ∃ (r : Nat) (fd : Bool), e = .returned (.tuple #[.int .i64 r, .bool fd]) ∧ Below w.heap.size w w' ∧ (fd = true → r < nl ∧ IsL (ls r) f t) ∧ (fd = false → ∀ x, x < nl → ¬ IsL (ls x) f t)
theorem zero_bef {x : Lk} {f t o : Int} (h : ordI x.a x.b f t = o) : (o < 0 ↔ Bef x f t) ∧ (o = 0 ↔ IsL x f t) := by
  subst h
  exact ⟨ordI_neg _ _ _ _, ordI_zero _ _ _ _⟩
theorem find_done {nl i : Nat} {ls : Ls} {f t : Int} (hr : Rise nl ls) (hlo : ∀ x, x < i → Bef (ls x) f t) (hhi : ∀ x, i ≤ x → x < nl → ¬ Bef (ls x) f t) (hne : i < nl → ¬ IsL (ls i) f t) : ∀ x, x < nl → ¬ IsL (ls x) f t := by
  intro x hx he
  by_cases h1 : x < i
  · have := hlo x h1; unfold Bef IsL at *; omega
  · by_cases h2 : x = i
    · subst h2; exact hne hx he
    · have h3 := hhi i (Nat.le_refl _) (by omega)
      have h4 := hr i x (by omega) hx
      have h5 := hne (by omega)
      unfold Bef IsL LtL at *; omega

set_option maxRecDepth 100000 in
set_option maxHeartbeats 2000000 in
theorem bsearch_any (pl : Option Addr) (nl cl : Nat) (ls : Ls) (f t : Int) (w : World) (hnl : nl ≤ 400) (hl : LinksAt w pl nl ls) (hr : Rise nl ls) :
    Calls Try.prog 33 #[.slice pl nl cl, .agg #[.int .i64 f, .int .i64 t], .func (.func 27) #[] #[]] w (FindPost w nl ls f t) := by
  have HL := Lib.hid hl
  have HRI := Lib.hid hr
  clear hl hr
  go_enter Try.func33, Try.ntmps33
  go_wp2_with fail
  go_loopw [9, 10] (fun s9 s10 wr => ∃ i j : Nat, s9 = .int .i64 i ∧ s10 = .int .i64 j ∧ i ≤ j ∧ j ≤ nl ∧ Below w.heap.size w wr ∧ Hid (wr.heap[w.heap.size]? = some (.cells #[.int .i64 f, .int .i64 t] 58 (0, 0))) ∧ Hid (∀ x, x < i → Bef (ls x) f t) ∧ Hid (∀ x, j ≤ x → x < nl → ¬ Bef (ls x) f t)) (fun s9 s10 _ => (intOf s10).toNat - (intOf s9).toNat)
  case atStart => exact ⟨0, nl, rfl, rfl, by omega, by omega, by go_grown, Lib.hid (heap_alloc_is rfl), Lib.hid (fun x hx => absurd hx (Nat.not_lt_zero _)), Lib.hid (fun x h1 h2 => absurd h1 (by omega))⟩
  case round =>
    obtain ⟨i, j, rfl, rfl, hij, hj, hb, hgt, hlo, hhi⟩ := hrel
    have hbs := hb.size
    by_cases hlt : i < j
    · obtain ⟨b, off, rfl, hc⟩ := HL.out.below hb (by omega)
      go_upto_region 5 with (fail)
      rw [show ((i : Int) + (j : Int)) / 2 = (((i + j) / 2 : Nat) : Int) by omega]
      obtain ⟨k, hk0, hk1, hk2⟩ : ∃ k, (i + j) / 2 = k ∧ i ≤ k ∧ k < j := ⟨_, rfl, by omega, by omega⟩
      rw [hk0]
      clear hk0
      have hck := hc k (by omega)
      clear hc
      generalize hA : ls k = A at hck
      have HA := Lib.hid hA
      clear hA
      generalize ho : ordI A.a A.b f t = o
      have HO := Lib.hid ho
      have HZ := Lib.hid (zero_bef ho)
      clear ho
      have z1 : (k : Int) < (nl : Int) := by omega
      have z2 : (0 : Int) ≤ (k : Int) := Int.natCast_nonneg _
      refine draws_hid (by kernel_rfl) (by kernel_rfl) (by kernel_rfl) (fun W hW ops hops => ?_)
      subst hW
      clear hops
      have f0 : ∀ xl : Later W [], xl.w.cell? ⟨w.heap.size, 0, none⟩ = some (.int .i64 f) := fun xl => cell_of_block (Later.at0 hgt.out xl) rfl
      have f1 : ∀ xl : Later W [], xl.w.cell? ⟨w.heap.size, 1, none⟩ = some (.int .i64 t) := fun xl => cell_of_block (Later.at0 hgt.out xl) rfl
      have k0 : ∀ xl : Later W [], xl.w.cell? ⟨b, off + k * 4, none⟩ = some (.int .i64 A.a) := fun xl => cell_later (xl.h.below (Nat.le_refl _) (fun d hd => by cases hd)) hck.1
      have k1 : ∀ xl : Later W [], xl.w.cell? ⟨b, off + k * 4 + 1, none⟩ = some (.int .i64 A.b) := fun xl => cell_later (xl.h.below (Nat.le_refl _) (fun d hd => by cases hd)) hck.2.1
      have k2 : ∀ xl : Later W [], xl.w.cell? ⟨b, off + k * 4 + 2, none⟩ = some (.int .i64 A.w) := fun xl => cell_later (xl.h.below (Nat.le_refl _) (fun d hd => by cases hd)) hck.2.2.1
      have k3 : ∀ xl : Later W [], xl.w.cell? ⟨b, off + k * 4 + 3, none⟩ = some (.int .i64 A.m) := fun xl => cell_later (xl.h.below (Nat.le_refl _) (fun d hd => by cases hd)) hck.2.2.2
      repeat (refine walkT_step (fun K hK => ?_); go_simp; first | (refine hK _ _ ?_; clear hK K) | (refine ⟨_, fun xl => order_any _ _ _ _ _ _ _, ?_⟩; refine hK _ _ ?_; clear hK K))
      refine walkT_nil ?_
      intro w5 hc5
      have hb5 := hb.trans (hc5.below.mono hb.size)
      have HG5 := Lib.hid (hc5.at0 hgt.out)
      clear hc5 f0 f1 k0 k1 k2 k3 hck
      rw [HO.out]
      by_cases hneg : o < 0
      · have HL2 := Lib.hid (fun x (h : x < k + 1) => show Bef (ls x) f t from HRI.out.bef (y := k) (by omega) (by omega) (by rw [HA.out]; exact HZ.out.1.1 hneg))
        go_wp2_with fail
        go_roundw
        case rel => exact ⟨k + 1, j, by go_num, rfl, by omega, hj, hb5, HG5, HL2, hhi⟩
        case measure => simp [intOf]; omega
      · have HH2 := Lib.hid (fun x (h1 : k ≤ x) (h2 : x < nl) (h3 : Bef (ls x) f t) => hneg (HZ.out.1.2 (by rw [← HA.out]; exact HRI.out.bef h1 h2 h3)))
        go_wp2_with fail
        go_roundw
        case rel => exact ⟨i, k, rfl, rfl, by omega, by omega, hb5, HG5, hlo, HH2⟩
        case measure => simp [intOf]; omega
    · obtain rfl : i = j := by omega
      by_cases hend : i < nl
      · obtain ⟨b, off, rfl, hc⟩ := HL.out.below hb (by omega)
        have hck := hc i hend
        clear hc
        generalize hA : ls i = A at hck
        have HA := Lib.hid hA
        clear hA
        generalize ho : ordI A.a A.b f t = o
        have HO := Lib.hid ho
        have HZ := Lib.hid (zero_bef ho)
        clear ho
        have z1 : (i : Int) < (nl : Int) := by omega
        have z2 : (0 : Int) ≤ (i : Int) := Int.natCast_nonneg _
        go_upto_region 8 with (fail)
        refine draws_hid (by kernel_rfl) (by kernel_rfl) (by kernel_rfl) (fun W hW ops hops => ?_)
        subst hW
        have o4 : (ops[4]?).bind (fun x => x.dst) = some 39 := by rw [hops]; rfl
        clear hops
        have f0 : ∀ xl : Later W [], xl.w.cell? ⟨w.heap.size, 0, none⟩ = some (.int .i64 f) := fun xl => cell_of_block (Later.at0 hgt.out xl) rfl
        have f1 : ∀ xl : Later W [], xl.w.cell? ⟨w.heap.size, 1, none⟩ = some (.int .i64 t) := fun xl => cell_of_block (Later.at0 hgt.out xl) rfl
        have k0 : ∀ xl : Later W [], xl.w.cell? ⟨b, off + i * 4, none⟩ = some (.int .i64 A.a) := fun xl => cell_later (xl.h.below (Nat.le_refl _) (fun d hd => by cases hd)) hck.1
        have k1 : ∀ xl : Later W [], xl.w.cell? ⟨b, off + i * 4 + 1, none⟩ = some (.int .i64 A.b) := fun xl => cell_later (xl.h.below (Nat.le_refl _) (fun d hd => by cases hd)) hck.2.1
        have k2 : ∀ xl : Later W [], xl.w.cell? ⟨b, off + i * 4 + 2, none⟩ = some (.int .i64 A.w) := fun xl => cell_later (xl.h.below (Nat.le_refl _) (fun d hd => by cases hd)) hck.2.2.1
        have k3 : ∀ xl : Later W [], xl.w.cell? ⟨b, off + i * 4 + 3, none⟩ = some (.int .i64 A.m) := fun xl => cell_later (xl.h.below (Nat.le_refl _) (fun d hd => by cases hd)) hck.2.2.2
        repeat (refine walkT_step (fun K hK => ?_); go_simp; first | (refine hK _ _ ?_; clear hK K) | (refine ⟨_, fun xl => order_any _ _ _ _ _ _ _, ?_⟩; refine hK _ _ ?_; clear hK K))
        refine walkT_nil ?_
        intro w5 hc5
        have hb5 := hb.trans (hc5.below.mono hb.size)
        clear hc5 f0 f1 k0 k1 k2 k3 hck o4
        rw [HO.out]
        by_cases hz : o = 0
        · have hd : (o == 0) = true := beq_iff_eq.2 hz
          have HY := Lib.hid (show i < nl ∧ IsL (ls i) f t from ⟨hend, by rw [HA.out]; exact HZ.out.2.1 hz⟩)
          rw [hd]
          clear hz hd
          go_wp2_with fail
          go_ret2
          exact ⟨i, true, rfl, hb5, fun _ => HY.out, (fun h => by cases h)⟩
        · have hd : (o == 0) = false := beq_eq_false_iff_ne.2 hz
          have HY := Lib.hid (find_done HRI.out hlo.out hhi.out (fun _ h => hz (HZ.out.2.2 (by rw [← HA.out]; exact h))))
          rw [hd]
          clear hz hd
          go_wp2_with fail
          go_ret2
          exact ⟨i, false, rfl, hb5, (fun h => by cases h), fun _ => HY.out⟩
      · have HY := Lib.hid (find_done HRI.out hlo.out hhi.out (fun h => absurd h hend))
        have z5 : ¬ ((i : Int) < (nl : Int)) := by omega
        go_upto_region 8 with (fail)
        refine draws_hid (by kernel_rfl) (by kernel_rfl) (by kernel_rfl) (fun W hW ops hops => ?_)
        subst hW
        have o4 : (ops[4]?).bind (fun x => x.dst) = some 39 := by rw [hops]; rfl
        clear hops
        repeat (refine walkT_step (fun K hK => ?_); go_simp; first | (refine hK _ _ ?_; clear hK K))
        refine walkT_nil ?_
        intro w5 hc5
        have hb5 := hb.trans (hc5.below.mono hb.size)
        clear hc5 o4
        go_wp2_with fail
        go_ret2
        exact ⟨i, false, rfl, hb5, (fun h => by cases h), fun _ => HY.out⟩

theorem find_any (pl : Option Addr) (nl cl : Nat) (ls : Ls) (f t : Int) (w : World) (hnl : nl ≤ 400) (hl : LinksAt w pl nl ls) (hr : Rise nl ls) :
    Calls Try.prog 29 #[.slice pl nl cl, .int .i64 f, .int .i64 t] w (FindPost w nl ls f t) := by
  have H1 := Lib.hid (fun (W : World) (h : W = w) => bsearch_any pl nl cl ls f t W hnl (by rw [h]; exact hl) hr)
  clear hl hr
  go_enter Try.func29, Try.ntmps29
  go_wp2_with fail
  refine (H1.out _ rfl).mono ?_
  rintro e w1 ⟨r, fd, rfl, hb1, hy, hn⟩
  have HY := Lib.hid hy
  have HN := Lib.hid hn
  clear hy hn
  go_wp2_with fail
  go_ret2
  exact ⟨r, fd, rfl, hb1, HY.out, HN.out⟩
end Go.Proofs.Ytgmlaimlcccmhaa
