/-
  IS A LINK PUT TOGETHER OF TWO: hier.joined. CONDITIONS: the links may be.
-/
import Derived.Test.YtgmlaimlcccmhaaNFind
namespace Go.Proofs.Ytgmlaimlcccmhaa
open Go.RowKit Go.Proofs.Ytgmlaimlcccmhaa.Tame
set_option maxHeartbeats 400000

/-- A link is put together of two over its Mid, whose rank is lower than both. -/
def JnP (nr : Nat) (rk : Fn) (nl : Nat) (ls : Ls) (x : Lk) : Prop := Vtx nr x.m ∧ rk x.m.toNat < rk x.a.toNat ∧ rk x.m.toNat < rk x.b.toNat ∧ ∃ i k : Nat, i < nl ∧ k < nl ∧ IsL (ls i) x.a x.m ∧ IsL (ls k) x.m x.b ∧ (ls i).w + (ls k).w = x.w
theorem LkIn.later {W : World} {b o : Nat} {x : Lk} (h : LkIn W b o x) (xl : Later W []) : LkIn xl.w b o x := h.below (xl.h.below (Nat.le_refl _) (fun d hd => by cases hd))
theorem cellLater {W : World} {p : Addr} {v : Value} (h : W.cell? p = some v) (xl : Later W []) : xl.w.cell? p = some v := cell_later (xl.h.below (Nat.le_refl _) (fun d hd => by cases hd)) h

set_option maxRecDepth 100000 in
set_option maxHeartbeats 4000000 in
theorem joined_any (pr : Option Addr) (nr cr : Nat) (pl : Option Addr) (nl cl : Nat) (rk : Fn) (ls : Ls) (a b : Nat) (q m : Int) (w : World) (hnr : nr ≤ 40) (hnl : nl ≤ 400) (ha : a < nr) (hb0 : b < nr) (hr : IntsAt w pr nr rk) (hl : LinksAt w pl nl ls) (hs : SortOK nr nl ls) :
    Calls Try.prog 21 #[HV pr nr cr pl nl cl, .agg #[.int .i64 a, .int .i64 b, .int .i64 q, .int .i64 m]] w fun e w' => e = .returned (.bool (bOf (JnP nr rk nl ls ⟨a, b, q, m⟩))) ∧ Below w.heap.size w w' := by
  obtain ⟨br, ofr, rfl, hc⟩ := hr (by omega)
  have HL := Lib.hid hl
  have HC := Lib.hid hc
  have HS := Lib.hid hs
  have HRI := Lib.hid hs.rise
  have hblr := World.block_lt_of_cell? w _ (hc a ha)
  simp only at hblr
  clear hl hc hs
  generalize hv : bOf (JnP nr rk nl ls ⟨a, b, q, m⟩) = v
  have HV := Lib.hid hv
  clear hv
  go_enter Try.func21, Try.ntmps21
  go_upto_region 1 with (fail)
  refine draws_hid (by kernel_rfl) (by kernel_rfl) (by kernel_rfl) (fun W hW ops hops => ?_)
  have hbW : Below w.heap.size w W := by rw [hW]; go_grown
  have gB : W.heap[w.heap.size]? = some (.cells #[.slice (some ⟨br, ofr, none⟩) nr cr, .slice pl nl cl] 25 (0, 0)) := by rw [hW]; exact heap_alloc_lt (heap_alloc_is rfl)
  have gX : W.heap[w.heap.size + 1]? = some (.cells #[.int .i64 a, .int .i64 b, .int .i64 q, .int .i64 m] 40) := by rw [hW]; exact heap_alloc_is (by simp)
  clear hW
  have o5 : (ops[5]?).bind (fun x => x.dst) = some 14 := by rw [hops]; rfl
  have o20 : (ops[20]?).bind (fun x => x.dst) = some 29 := by rw [hops]; rfl
  clear hops
  have f0 : ∀ xl : Later W [], xl.w.cell? ⟨w.heap.size, 0, none⟩ = some (.slice (some ⟨br, ofr, none⟩) nr cr) := fun xl => cell_of_block (Later.at0 gB xl) rfl
  have f1 : ∀ xl : Later W [], xl.w.cell? ⟨w.heap.size, 1, none⟩ = some (.slice pl nl cl) := fun xl => cell_of_block (Later.at0 gB xl) rfl
  have x0 : ∀ xl : Later W [], xl.w.cell? ⟨w.heap.size + 1, 0, none⟩ = some (.int .i64 a) := fun xl => cell_of_block (Later.at0 gX xl) rfl
  have x1 : ∀ xl : Later W [], xl.w.cell? ⟨w.heap.size + 1, 1, none⟩ = some (.int .i64 b) := fun xl => cell_of_block (Later.at0 gX xl) rfl
  have x3 : ∀ xl : Later W [], xl.w.cell? ⟨w.heap.size + 1, 3, none⟩ = some (.int .i64 m) := fun xl => cell_of_block (Later.at0 gX xl) rfl
  by_cases hm : Vtx nr m
  · obtain ⟨m, rfl⟩ : ∃ k : Nat, m = k := ⟨m.toNat, by have := hm.1; omega⟩
    have hmn : m < nr := by have := hm.2; omega
    have z1 : (a : Int) < (nr : Int) := by omega
    have z2 : (b : Int) < (nr : Int) := by omega
    have z3 : (m : Int) < (nr : Int) := by omega
    have r0 := HC.out a ha
    have r1 := HC.out b hb0
    have r2 := HC.out m hmn
    generalize hra : rk a = A at r0
    generalize hrb : rk b = B at r1
    generalize hrm : rk m = M at r2
    have HRA := Lib.hid hra
    have HRB := Lib.hid hrb
    have HRM := Lib.hid hrm
    clear hra hrb hrm
    have y0 : ∀ xl : Later W [], xl.w.cell? ⟨br, ofr + a, none⟩ = some (.int .i64 A) := cellLater (cell_later hbW r0)
    have y1 : ∀ xl : Later W [], xl.w.cell? ⟨br, ofr + b, none⟩ = some (.int .i64 B) := cellLater (cell_later hbW r1)
    have y2 : ∀ xl : Later W [], xl.w.cell? ⟨br, ofr + m, none⟩ = some (.int .i64 M) := cellLater (cell_later hbW r2)
    clear r0 r1 r2
    by_cases h1 : M < A
    · by_cases h2 : M < B
      · have d1 : decide (A ≤ M) = false := decide_eq_false (by omega)
        have d2 : decide (B ≤ M) = false := decide_eq_false (by omega)
        have HH1 := Lib.hid h1
        have HH2 := Lib.hid h2
        clear h1 h2
        repeat (refine walkT_step (fun K hK => ?_); go_simp; first | (refine hK _ _ ?_; clear hK K) | (refine ⟨_, fun xl => vertex_yes _ _ _ _ _ _ _ _ ‹_›, ?_⟩; refine hK _ _ ?_; clear hK K) | (refine ⟨_, fun xl => vertex_no _ _ _ _ _ _ _ _ ‹_›, ?_⟩; refine hK _ _ ?_; clear hK K))
        refine walkT_nil ?_
        intro w5 hc5
        have hb5 := hbW.trans (hc5.below.mono hbW.size)
        replace gX := hc5.at0 gX
        replace gB := hc5.at0 gB
        clear hc5 o5 o20 f0 f1 x0 x1 x3 d1 d2 y0 y1 y2 hbW
        have hz5 : w.heap.size + 2 ≤ w5.heap.size := by have := lt_of_some gX; omega
        have f0 : w5.cell? ⟨w.heap.size, 0, none⟩ = some (.slice (some ⟨br, ofr, none⟩) nr cr) := cell_of_block gB rfl
        have f1 : w5.cell? ⟨w.heap.size, 1, none⟩ = some (.slice pl nl cl) := cell_of_block gB rfl
        have x0 : w5.cell? ⟨w.heap.size + 1, 0, none⟩ = some (.int .i64 a) := cell_of_block gX rfl
        have x1 : w5.cell? ⟨w.heap.size + 1, 1, none⟩ = some (.int .i64 b) := cell_of_block gX rfl
        have x3 : w5.cell? ⟨w.heap.size + 1, 3, none⟩ = some (.int .i64 m) := cell_of_block gX rfl
        go_wp2_with fail
        refine (find_any _ _ _ ls _ _ _ hnl (HL.out.below hb5) HRI.out).mono ?_
        rintro e w6 ⟨i, fi, rfl, hb6, hyi, hni⟩
        have HYI := Lib.hid hyi
        have HNI := Lib.hid hni
        clear hyi hni f0 f1 x0 x1 x3
        replace gX := keep2 hb6 gX
        replace gB := keep2 hb6 gB
        replace hb6 := hb5.trans (hb6.mono hb5.size)
        clear hb5
        have f0 : w6.cell? ⟨w.heap.size, 0, none⟩ = some (.slice (some ⟨br, ofr, none⟩) nr cr) := cell_of_block gB rfl
        have f1 : w6.cell? ⟨w.heap.size, 1, none⟩ = some (.slice pl nl cl) := cell_of_block gB rfl
        have x0 : w6.cell? ⟨w.heap.size + 1, 0, none⟩ = some (.int .i64 a) := cell_of_block gX rfl
        have x1 : w6.cell? ⟨w.heap.size + 1, 1, none⟩ = some (.int .i64 b) := cell_of_block gX rfl
        have x3 : w6.cell? ⟨w.heap.size + 1, 3, none⟩ = some (.int .i64 m) := cell_of_block gX rfl
        go_wp2_with fail
        refine (find_any _ _ _ ls _ _ _ hnl (HL.out.below hb6) HRI.out).mono ?_
        rintro e w7 ⟨k, fk, rfl, hb7, hyk, hnk⟩
        have HYK := Lib.hid hyk
        have HNK := Lib.hid hnk
        clear hyk hnk f0 f1 x0 x1 x3
        replace gX := keep2 hb7 gX
        replace gB := keep2 hb7 gB
        replace hb7 := hb6.trans (hb7.mono hb6.size)
        clear hb6
        go_upto_region 5 with (fail)
        refine draws_hid (by kernel_rfl) (by kernel_rfl) (by kernel_rfl) (fun W hW ops hops => ?_)
        subst hW
        have o1 : (ops[1]?).bind (fun x => x.dst) = some 65 := by rw [hops]; rfl
        have o4 : (ops[4]?).bind (fun x => x.dst) = some 68 := by rw [hops]; rfl
        clear hops
        have f1 : ∀ xl : Later W [], xl.w.cell? ⟨w.heap.size, 1, none⟩ = some (.slice pl nl cl) := fun xl => cell_of_block (Later.at0 gB xl) rfl
        have x2 : ∀ xl : Later W [], xl.w.cell? ⟨w.heap.size + 1, 2, none⟩ = some (.int .i64 q) := fun xl => cell_of_block (Later.at0 gX xl) rfl
        cases fi with
        | false =>
          have HV2 := Lib.hid (show false = v by rw [← HV.out, bOf_no (fun h : JnP nr rk nl ls ⟨a, b, q, m⟩ => by obtain ⟨_, _, _, i', k', hi', hk', e1, e2, e3⟩ := h; exact HNI.out rfl i' hi' e1)])
          cases fk <;>
            ((repeat (refine walkT_step (fun K hK => ?_); go_simp; first | (refine hK _ _ ?_; clear hK K))); refine walkT_nil ?_; intro w8 hc8; have hb8 := hb7.trans (hc8.below.mono hb7.size); clear hc8 o1 o4 f1 x2 gX gB; go_wp2_with fail; go_ret; exact ⟨ret_bool HV2.out, hb8⟩)
        | true =>
          cases fk with
          | false =>
            have HV2 := Lib.hid (show false = v by rw [← HV.out, bOf_no (fun h : JnP nr rk nl ls ⟨a, b, q, m⟩ => by obtain ⟨_, _, _, i', k', hi', hk', e1, e2, e3⟩ := h; exact HNK.out rfl k' hk' e2)])
            repeat (refine walkT_step (fun K hK => ?_); go_simp; first | (refine hK _ _ ?_; clear hK K))
            refine walkT_nil ?_
            intro w8 hc8
            have hb8 := hb7.trans (hc8.below.mono hb7.size)
            clear hc8 o1 o4 f1 x2 gX gB
            go_wp2_with fail
            go_ret
            exact ⟨ret_bool HV2.out, hb8⟩
          | true =>
            obtain ⟨hi, ei⟩ := HYI.out rfl
            obtain ⟨hk, ek⟩ := HYK.out rfl
            obtain ⟨bl, ofl, rfl, hcl⟩ := HL.out.below hb7 (by omega)
            have hci := (hcl i hi).2.2.1
            have hck := (hcl k hk).2.2.1
            clear hcl
            have wi := HS.out i hi
            have wk := HS.out k hk
            have HEI := Lib.hid ei
            have HEK := Lib.hid ek
            clear ei ek
            obtain ⟨_, _, _, wi0, wi1, _⟩ := wi
            obtain ⟨_, _, _, wk0, wk1, _⟩ := wk
            generalize hwi : (ls i).w = WI at hci wi0 wi1
            generalize hwk : (ls k).w = WK at hck wk0 wk1
            have HWI := Lib.hid hwi
            have HWK := Lib.hid hwk
            clear hwi hwk
            have z4 : (i : Int) < (nl : Int) := by omega
            have z5 : (k : Int) < (nl : Int) := by omega
            have z6 : (0 : Int) ≤ (i : Int) := Int.natCast_nonneg _
            have z7 : (0 : Int) ≤ (k : Int) := Int.natCast_nonneg _
            have hwp : IntKind.i64.wrap (WI + WK) = WI + WK := IntWalk.i64_in _ (by omega)
            have k0 : ∀ xl : Later W [], xl.w.cell? ⟨bl, ofl + i * 4 + 2, none⟩ = some (.int .i64 WI) := cellLater hci
            have k1 : ∀ xl : Later W [], xl.w.cell? ⟨bl, ofl + k * 4 + 2, none⟩ = some (.int .i64 WK) := cellLater hck
            clear hci hck
            by_cases he : WI + WK = q
            · have HV2 := Lib.hid (show true = v by rw [← HV.out, bOf_yes (show JnP nr rk nl ls ⟨a, b, q, m⟩ from ⟨hm, by simp only [Int.toNat_natCast]; rw [HRA.out, HRM.out]; exact HH1.out, by simp only [Int.toNat_natCast]; rw [HRB.out, HRM.out]; exact HH2.out, i, k, hi, hk, HEI.out, HEK.out, by rw [HWI.out, HWK.out]; exact he⟩)])
              have hd : (WI + WK == q) = true := beq_iff_eq.2 he
              clear he
              repeat (refine walkT_step (fun K hK => ?_); go_simp; first | (refine hK _ _ ?_; clear hK K))
              refine walkT_nil ?_
              intro w8 hc8
              have hb8 := hb7.trans (hc8.below.mono hb7.size)
              clear hc8 o1 o4 f1 x2 gX gB k0 k1 hwp
              go_wp2_with fail
              go_ret
              exact ⟨ret_bool HV2.out, hb8⟩
            · have HV2 := Lib.hid (show false = v by rw [← HV.out, bOf_no (fun h : JnP nr rk nl ls ⟨a, b, q, m⟩ => by
                  obtain ⟨_, _, _, i', k', hi', hk', e1, e2, e3⟩ := h
                  rw [HRI.out.one hi' hi e1 HEI.out, HRI.out.one hk' hk e2 HEK.out, HWI.out, HWK.out] at e3
                  exact he e3)])
              have hd : (WI + WK == q) = false := beq_eq_false_iff_ne.2 he
              clear he
              repeat (refine walkT_step (fun K hK => ?_); go_simp; first | (refine hK _ _ ?_; clear hK K))
              refine walkT_nil ?_
              intro w8 hc8
              have hb8 := hb7.trans (hc8.below.mono hb7.size)
              clear hc8 o1 o4 f1 x2 gX gB k0 k1 hwp
              go_wp2_with fail
              go_ret
              exact ⟨ret_bool HV2.out, hb8⟩
      · have d1 : decide (A ≤ M) = false := decide_eq_false (by omega)
        have d2 : decide (B ≤ M) = true := decide_eq_true (by omega)
        have HH2 := Lib.hid h2
        have HV2 := Lib.hid (show false = v by rw [← HV.out, bOf_no (fun h : JnP nr rk nl ls ⟨a, b, q, m⟩ => by obtain ⟨g0, g1, g2, _⟩ := h; simp only [Int.toNat_natCast] at g1 g2; exact HH2.out (by rw [HRB.out, HRM.out] at g2; exact g2))])
        clear h1 h2
        repeat (refine walkT_step (fun K hK => ?_); go_simp; first | (refine hK _ _ ?_; clear hK K) | (refine ⟨_, fun xl => vertex_yes _ _ _ _ _ _ _ _ ‹_›, ?_⟩; refine hK _ _ ?_; clear hK K) | (refine ⟨_, fun xl => vertex_no _ _ _ _ _ _ _ _ ‹_›, ?_⟩; refine hK _ _ ?_; clear hK K))
        refine walkT_nil ?_
        intro w5 hc5
        have hb5 := hbW.trans (hc5.below.mono hbW.size)
        clear hc5 o5 o20 f0 f1 x0 x1 x3 gX gB
        go_wp2_with fail
        go_ret
        exact ⟨ret_bool HV2.out, hb5⟩
    · have d1 : decide (A ≤ M) = true := decide_eq_true (by omega)
      have HH1 := Lib.hid h1
      have HV2 := Lib.hid (show false = v by rw [← HV.out, bOf_no (fun h : JnP nr rk nl ls ⟨a, b, q, m⟩ => by obtain ⟨g0, g1, g2, _⟩ := h; simp only [Int.toNat_natCast] at g1 g2; exact HH1.out (by rw [HRA.out, HRM.out] at g1; exact g1))])
      clear h1
      repeat (refine walkT_step (fun K hK => ?_); go_simp; first | (refine hK _ _ ?_; clear hK K) | (refine ⟨_, fun xl => vertex_yes _ _ _ _ _ _ _ _ ‹_›, ?_⟩; refine hK _ _ ?_; clear hK K) | (refine ⟨_, fun xl => vertex_no _ _ _ _ _ _ _ _ ‹_›, ?_⟩; refine hK _ _ ?_; clear hK K))
      refine walkT_nil ?_
      intro w5 hc5
      have hb5 := hbW.trans (hc5.below.mono hbW.size)
      clear hc5 o5 o20 f0 f1 x0 x1 x3 gX gB
      go_wp2_with fail
      go_ret
      exact ⟨ret_bool HV2.out, hb5⟩
  · have HM := Lib.hid hm
    have HV2 := Lib.hid (show false = v by rw [← HV.out, bOf_no (fun h : JnP nr rk nl ls ⟨a, b, q, m⟩ => HM.out h.1)])
    repeat (refine walkT_step (fun K hK => ?_); go_simp; first | (refine hK _ _ ?_; clear hK K) | (refine ⟨_, fun xl => vertex_yes _ _ _ _ _ _ _ _ ‹_›, ?_⟩; refine hK _ _ ?_; clear hK K) | (refine ⟨_, fun xl => vertex_no _ _ _ _ _ _ _ _ ‹_›, ?_⟩; refine hK _ _ ?_; clear hK K))
    refine walkT_nil ?_
    intro w5 hc5
    have hb5 := hbW.trans (hc5.below.mono hbW.size)
    clear hc5 o5 o20 f0 f1 x0 x1 x3 gX gB
    go_wp2_with fail
    go_ret
    exact ⟨ret_bool HV2.out, hb5⟩
end Go.Proofs.Ytgmlaimlcccmhaa
