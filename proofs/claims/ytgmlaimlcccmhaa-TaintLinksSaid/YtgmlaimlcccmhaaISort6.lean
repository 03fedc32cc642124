/-
  THE WALK OF symMerge, WHOLE. CONDITIONS: stated.
-/
import Derived.Test.YtgmlaimlcccmhaaISort5
namespace Go.Proofs.Ytgmlaimlcccmhaa
open Go.RowKit Go.Proofs.Ytgmlaimlcccmhaa.Tame
set_option maxHeartbeats 400000

/-- What symMerge does, at runs that are not longer together than N. -/
def MergeOK (key : Int → Int) (D : Int → Prop) (g n cap : Nat) (p : Addr) (N : Nat) : Prop := ∀ (a m b : Nat) (f : Fn) (w : World), b - a ≤ N → a < m → m < b → b ≤ n → RowAt w g n f w → CmpOK key D g p w → AllIn D n f → Asc key a m f → Asc key m b f →
  Calls Try.prog 35 #[.slice (some ⟨g, 0, none⟩) n cap, .int .i64 a, .int .i64 m, .int .i64 b, .func (.func 23) #[] #[.pointer (some p)]] w (SortPost key w g n a b f)

set_option maxRecDepth 100000 in
set_option maxHeartbeats 4000000 in
theorem merge_many (key : Int → Int) (D : Int → Prop) (g n cap : Nat) (p : Addr) (N a m b : Nat) (f : Fn) (w : World) (hn : n ≤ 1000000) (ih : Hid (MergeOK key D g n cap p N)) (hN : b - a ≤ N + 1) (ham : a + 1 < m) (hmb : m + 1 < b) (hb : b ≤ n) (hr : RowAt w g n f w) (hkb : CmpOK key D g p w) (hin : AllIn D n f) (hs1 : Asc key a m f) (hs2 : Asc key m b f) :
    Calls Try.prog 35 #[.slice (some ⟨g, 0, none⟩) n cap, .int .i64 a, .int .i64 m, .int .i64 b, .func (.func 23) #[] #[.pointer (some p)]] w (SortPost key w g n a b f) := by
  have HR := Lib.hid hr
  have HKB := Lib.hid hkb
  have HIN := Lib.hid hin
  have HS1 := Lib.hid hs1
  have HS2 := Lib.hid hs2
  clear hr hkb hin hs1 hs2
  have hf1 : ((m : Int) - (a : Int) == 1) = false := beq_eq_false_iff_ne.2 (by omega)
  have hf2 : ((b : Int) - (m : Int) == 1) = false := beq_eq_false_iff_ne.2 (by omega)
  go_enter Try.func35, Try.ntmps35
  go_upto_region 25 with (fail)
  rw [show ((a : Int) + (b : Int)) / 2 = (((a + b) / 2 : Nat) : Int) by omega]
  obtain ⟨q, hq0, hq1, hq2, hq3, hq4⟩ : ∃ q, (a + b) / 2 = q ∧ a < q ∧ q < b ∧ a + b ≤ 2 * q + 1 ∧ 2 * q ≤ a + b := ⟨_, rfl, by omega, by omega, by omega, by omega⟩
  rw [hq0]
  clear hq0
  go_upto_if 140 with (fail)
  go_cut [20, 21] (fun s20 s21 wx => ∃ lo hi : Nat, s20 = .int .i64 lo ∧ s21 = .int .i64 hi ∧ RowAt w g n f wx ∧ a ≤ lo ∧ lo ≤ hi ∧ hi ≤ m ∧ hi ≤ q ∧ q + m ≤ b + lo ∧ (lo = a ∨ q + m = b + lo) ∧ (hi = m ∨ hi = q))
  case first =>
    as_aux_lemma =>
      by_cases hgt : q < m
      · go_wp2
        go_meet
        exact ⟨q + m - b, q, congrArg (Value.int .i64) (by omega), rfl, HR.out, by omega, by omega, by omega, by omega, by omega, by omega, by omega⟩
      · go_wp2
        go_meet
        exact ⟨a, m, rfl, rfl, HR.out, by omega, by omega, by omega, by omega, by omega, by omega, by omega⟩
  case rest =>
    as_aux_lemma =>
      obtain ⟨lo, hi, rfl, rfl, hrow0, l1, l2, l3, l4, l5, l6, l7⟩ := hcut
      have HR0 := Lib.hid hrow0
      have L6 := Lib.hid l6
      have L7 := Lib.hid l7
      clear hrow0 HR l6 l7
      go_wp2
      go_loopw [20, 21] (fun s20 s21 wr => ∃ s r : Nat, s20 = .int .i64 s ∧ s21 = .int .i64 r ∧ lo ≤ s ∧ s ≤ r ∧ r ≤ hi ∧ RowAt w g n f wr ∧ Hid (∀ c, lo ≤ c → c < s → key (f c) ≤ key (f (q + m - 1 - c))) ∧ Hid (∀ c, r ≤ c → c < hi → key (f (q + m - 1 - c)) < key (f c))) (fun s20 s21 _ => (intOf s21).toNat - (intOf s20).toNat)
      case atStart => exact ⟨lo, hi, rfl, rfl, Nat.le_refl _, l2, Nat.le_refl _, HR0.out, Lib.hid (fun c h1 h2 => by omega), Lib.hid (fun c h1 h2 => by omega)⟩
      case round =>
        as_aux_lemma =>
          obtain ⟨s, r, rfl, rfl, r1, r2, r3, hrow, hlo, hhi⟩ := hrel
          have HRow := Lib.hid hrow
          clear HR0
          by_cases hlt : s < r
          · go_upto_region 35 with (fail)
            rw [show ((s : Int) + (r : Int)) / 2 = (((s + r) / 2 : Nat) : Int) by omega]
            obtain ⟨c, hc0, hc1, hc2⟩ : ∃ c, (s + r) / 2 = c ∧ s ≤ c ∧ c < r := ⟨_, rfl, by omega, by omega⟩
            rw [hc0]
            clear hc0
            as_aux_lemma =>
              obtain ⟨d, hd⟩ : ∃ d, d + c + 1 = q + m := ⟨q + m - 1 - c, by omega⟩
              have hpc : IntKind.i64.wrap ((q : Int) + (m : Int) - 1 - (c : Int)) = (d : Int) := by rw [IntWalk.i64_in _ (by omega)]; omega
              have HD := Lib.hid hd
              have hdn : d < n := by omega
              have hcn' : c < n := by omega
              clear hd
              obtain ⟨hk, cur, hg, hp⟩ := hrow
              have pA := hp d (by omega)
              have pB := hp c (by omega)
              have q1 := HIN.out d (by omega)
              have q2 := HIN.out c (by omega)
              clear hk hp
              generalize hA : f d = A at pA q1
              generalize hB : f c = B at pB q2
              have HA := Lib.hid hA
              have HB := Lib.hid hB
              clear hA hB
              have z1 : (c : Int) < (n : Int) := by omega
              have z2 : (d : Int) < (n : Int) := by omega
              have z3 : (0 : Int) ≤ (c : Int) := Int.natCast_nonneg _
              have z4 : (0 : Int) ≤ (d : Int) := Int.natCast_nonneg _
              refine draws_hid (by kernel_rfl) (by kernel_rfl) (by kernel_rfl) (fun W hW ops hops => ?_)
              subst hW
              clear hops
              have c0 : ∀ xl : Later W [], xl.w.cell? ⟨g, d, none⟩ = some (.int .i64 A) := fun xl => cell_of_block (Later.at0 hg xl) pA
              have d0 : ∀ xl : Later W [], xl.w.cell? ⟨g, c, none⟩ = some (.int .i64 B) := fun xl => cell_of_block (Later.at0 hg xl) pB
              repeat (refine walkT_step (fun K hK => ?_); go_simp; first | (refine hK _ _ ?_; clear hK K) | (refine ⟨_, fun xl => HKB.out xl.w A B (HRow.out.kept.grow (xl.h.below (Nat.le_refl _) (fun d hd => by cases hd))) q1 q2, ?_⟩; refine hK _ _ ?_; clear hK K))
              refine walkT_nil ?_
              intro w5 hc
              have HRow5 := Lib.hid (HRow.out.below hc.below)
              have hcn := cmpI_neg (key A) (key B)
              have HCN := Lib.hid hcn
              generalize cmpI (key A) (key B) = v at *
              clear c0 d0 hc hcn hg pA pB
              have hdc : q + m - 1 - c = d := by have := HD.out; omega
              have HDC := Lib.hid hdc
              clear hdc hpc
              by_cases hneg : v < 0
              · have hnd : (!decide (v < 0)) = false := by rw [decide_eq_true hneg]; rfl
                rw [hnd]
                have hkl : key (f d) < key (f c) := by rw [HA.out, HB.out]; exact HCN.out.1 hneg
                have HH2 := Lib.hid (fun x (h1 : c ≤ x) (h2 : x < hi) => show key (f (q + m - 1 - x)) < key (f x) by
                  by_cases e : x = c
                  · rw [e, HDC.out]; exact hkl
                  · have u1 := HS2.out (q + m - 1 - x) d (by omega) (by have := HD.out; omega) (by have := HD.out; omega)
                    have u2 := HS1.out c x (by omega) (by omega) (by omega)
                    omega)
                clear hkl
                go_wp2
                go_roundw
                case rel => exact ⟨s, c, rfl, rfl, r1, hc1, by omega, HRow5.out, hlo, HH2⟩
                case measure => simp [intOf]; omega
              · have hnd : (!decide (v < 0)) = true := by rw [decide_eq_false hneg]; rfl
                rw [hnd]
                have hkl : key (f c) ≤ key (f d) := by have := HCN.out; rw [HA.out, HB.out]; omega
                have HL2 := Lib.hid (fun x (h1 : lo ≤ x) (h2 : x < c + 1) => show key (f x) ≤ key (f (q + m - 1 - x)) by
                  by_cases e : x = c
                  · rw [e, HDC.out]; exact hkl
                  · have u1 := HS2.out d (q + m - 1 - x) (by have := HD.out; omega) (by have := HD.out; omega) (by omega)
                    have u2 := HS1.out x c (by omega) (by omega) (by omega)
                    omega)
                clear hkl
                go_wp2
                go_roundw
                case rel => exact ⟨c + 1, r, by go_num, rfl, by omega, by omega, r3, HRow5.out, HL2, hhi⟩
                case measure => simp [intOf]; omega
          · obtain rfl : s = r := by omega
            clear hrow
            have HH := Lib.hid (rot_halves HS1.out HS2.out (by omega) (by omega) l1 r1 r3 l3 l4 l5 hq2 hq1 L6.out L7.out hlo.out hhi.out)
            clear hlo hhi L6 L7
            obtain ⟨e, he⟩ : ∃ e, q + m - s = e := ⟨_, rfl⟩
            rw [he] at HH
            have hes : e + s = q + m := by omega
            clear he
            go_upto_region 39 with (fail)
            rw [show (q : Int) + (m : Int) - (s : Int) = (e : Int) by omega]
            go_cut [185] (fun s185 wx => s185 = .bool (decide (s < m ∧ m < e)) ∧ RowAt w g n f wx)
            case first =>
              as_aux_lemma =>
                by_cases b1 : s < m
                · by_cases b2 : m < e
                  · go_wp2_with fail
                    go_meet
                    exact ⟨congrArg Value.bool (decide_eq_true ⟨b1, b2⟩).symm, HRow.out⟩
                  · go_wp2_with fail
                    go_meet
                    exact ⟨congrArg Value.bool (decide_eq_false (fun h => b2 h.2)).symm, HRow.out⟩
                · go_wp2_with fail
                  go_meet
                  exact ⟨congrArg Value.bool (decide_eq_false (fun h => b1 h.1)).symm, HRow.out⟩
            case rest =>
            as_aux_lemma =>
              obtain ⟨rfl, hrow⟩ := hcut
              clear HRow
              have HRow := Lib.hid hrow
              clear hrow
              go_upto_if 185 with (fail)
              go_cut [191] (fun _ wx => RowAt w g n (rotF s m e f) wx ∧ Sw a b f (rotF s m e f))
              case first =>
                as_aux_lemma =>
                  by_cases bb : s < m ∧ m < e
                  · rw [decide_eq_true bb]
                    go_wp2_with fail
                    refine (rotate_any g n cap s m e f _ _ bb.1 bb.2 (by omega) hn (RowAt.self HRow.out)).mono ?_
                    rintro e w6 ⟨rfl, hr6, hs6⟩
                    have HR6 := Lib.hid (HRow.out.rebase hr6)
                    have HS6 := Lib.hid (hs6.mono (a' := a) (b' := b) (by omega) (by omega))
                    clear hr6 hs6
                    go_wp2_with fail
                    go_meet
                    exact ⟨HR6.out, HS6.out⟩
                  · rw [decide_eq_false bb]
                    have hid' : rotF s m e f = f := by
                      by_cases b1 : s < m
                      · obtain rfl : e = m := by omega
                        exact rot_id2 s e f
                      · obtain rfl : s = m := by omega
                        exact rot_id1 s e f
                    have HI := Lib.hid hid'
                    clear hid'
                    go_wp2_with fail
                    go_meet
                    exact ⟨by rw [HI.out]; exact HRow.out, by rw [HI.out]; exact .refl f⟩
              case rest =>
              as_aux_lemma =>
                obtain ⟨hrow1, hsw1⟩ := hcut
                clear HRow
                have HRow := Lib.hid hrow1
                have HSw := Lib.hid hsw1
                clear hrow1 hsw1
                have HIN1 := Lib.hid (HIN.out.sw HSw.out hb)
                generalize hF : rotF s m e f = F at *
                clear hF
                go_upto_region 41 with (fail)
                go_cut [199] (fun s199 wx => s199 = .bool (decide (a < s ∧ s < q)) ∧ RowAt w g n F wx)
                case first =>
                  as_aux_lemma =>
                    by_cases b1 : a < s
                    · by_cases b2 : s < q
                      · go_wp2_with fail
                        go_meet
                        exact ⟨congrArg Value.bool (decide_eq_true ⟨b1, b2⟩).symm, HRow.out⟩
                      · go_wp2_with fail
                        go_meet
                        exact ⟨congrArg Value.bool (decide_eq_false (fun h => b2 h.2)).symm, HRow.out⟩
                    · go_wp2_with fail
                      go_meet
                      exact ⟨congrArg Value.bool (decide_eq_false (fun h => b1 h.1)).symm, HRow.out⟩
                case rest =>
                as_aux_lemma =>
                  obtain ⟨rfl, hrow⟩ := hcut
                  clear HRow
                  have HRow := Lib.hid hrow
                  clear hrow
                  go_upto_if 199 with (fail)
                  go_cut [205] (fun _ wx => ∃ h1, RowAt w g n h1 wx ∧ Sw a q F h1 ∧ Hid (Asc key a q h1))
                  case first =>
                    as_aux_lemma =>
                      by_cases bb : a < s ∧ s < q
                      · rw [decide_eq_true bb]
                        go_wp2_with fail
                        refine (ih.out a s q F _ (by omega) bb.1 bb.2 (by omega) (RowAt.self HRow.out) (fun W x y hk => HKB.out W x y (HRow.out.kept.trans' hk)) HIN1.out HH.out.1 HH.out.2.1).mono ?_
                        rintro e7 w7 ⟨rfl, h1, hr7, hs7, ha7⟩
                        have HR7 := Lib.hid (HRow.out.rebase hr7)
                        have HS7 := Lib.hid hs7
                        have HA7 := Lib.hid ha7
                        clear hr7 hs7 ha7
                        go_wp2_with fail
                        go_meet
                        exact ⟨h1, HR7.out, HS7.out, HA7⟩
                      · rw [decide_eq_false bb]
                        have hA : Asc key a q F := by
                          by_cases b1 : a < s
                          · obtain rfl : s = q := by omega
                            exact HH.out.1
                          · obtain rfl : s = a := by omega
                            exact HH.out.2.1
                        have HA7 := Lib.hid hA
                        clear hA
                        go_wp2_with fail
                        go_meet
                        exact ⟨F, HRow.out, .refl F, HA7⟩
                  case rest =>
                  as_aux_lemma =>
                    obtain ⟨h1, hrow, hs7, ha7⟩ := hcut
                    clear HRow
                    have HRow := Lib.hid hrow
                    have HS7 := Lib.hid hs7
                    clear hrow hs7
                    have HIN2 := Lib.hid (HIN1.out.sw HS7.out (by omega))
                    have hq1' : ∀ x, q ≤ x → h1 x = F x := fun x hx => HS7.out.out x (.inr hx)
                    have HQ := Lib.hid hq1'
                    clear hq1'
                    have HX1 := Lib.hid (show Asc key q e h1 from fun x y h0 h2 h3 => by rw [HQ.out x h0, HQ.out y (by omega)]; exact HH.out.2.2.1 x y h0 h2 h3)
                    have HX2 := Lib.hid (show Asc key e b h1 from fun x y h0 h2 h3 => by rw [HQ.out x (by omega), HQ.out y (by omega)]; exact HH.out.2.2.2.1 x y h0 h2 h3)
                    go_upto_region 43 with (fail)
                    go_cut [213] (fun s213 wx => s213 = .bool (decide (q < e ∧ e < b)) ∧ RowAt w g n h1 wx)
                    case first =>
                      as_aux_lemma =>
                        by_cases b1 : q < e
                        · by_cases b2 : e < b
                          · go_wp2_with fail
                            go_meet
                            exact ⟨congrArg Value.bool (decide_eq_true ⟨b1, b2⟩).symm, HRow.out⟩
                          · go_wp2_with fail
                            go_meet
                            exact ⟨congrArg Value.bool (decide_eq_false (fun h => b2 h.2)).symm, HRow.out⟩
                        · go_wp2_with fail
                          go_meet
                          exact ⟨congrArg Value.bool (decide_eq_false (fun h => b1 h.1)).symm, HRow.out⟩
                    case rest =>
                    as_aux_lemma =>
                      obtain ⟨rfl, hrow⟩ := hcut
                      clear HRow
                      have HRow := Lib.hid hrow
                      clear hrow
                      by_cases bb : q < e ∧ e < b
                      · rw [decide_eq_true bb]
                        go_wp2_with fail
                        refine (ih.out q e b h1 _ (by omega) bb.1 bb.2 hb (RowAt.self HRow.out) (fun W x y hk => HKB.out W x y (HRow.out.kept.trans' hk)) HIN2.out HX1.out HX2.out).mono ?_
                        rintro e8 w8 ⟨rfl, h2, hr8, hs8, ha8⟩
                        have HR8 := Lib.hid (HRow.out.rebase hr8)
                        have hfin : Asc key a b h2 := halves_asc (h := F) (q := q) (fun x y g0 g1 g2 => by rw [hs8.out x (.inl (by omega)), hs8.out y (.inl g2)]; exact ha7.out x y g0 g1 g2) ha8
                          (fun x g0 g1 => by rw [hs8.out x (.inl g1)]; exact HS7.out.from x ⟨g0, g1⟩)
                          (fun x g0 g1 => by obtain ⟨y, y0, y1, ye⟩ := hs8.from x ⟨g0, g1⟩; exact ⟨y, y0, y1, by rw [ye, HQ.out y y0]⟩) HH.out.2.2.2.2
                        have HF := Lib.hid hfin
                        have HSF := Lib.hid ((HSw.out.trans (HS7.out.mono (Nat.le_refl _) (by omega))).trans (hs8.mono (a' := a) (b' := b) (by omega) (Nat.le_refl _)))
                        clear hr8 hs8 ha8 hfin
                        go_wp2_with fail
                        go_end0
                        exact ⟨rfl, h2, HR8.out, HSF.out, HF.out⟩
                      · rw [decide_eq_false bb]
                        have hsec : Asc key q b h1 := by
                          by_cases b1 : q < e
                          · obtain rfl : e = b := by omega
                            exact HX1.out
                          · obtain rfl : e = q := by omega
                            exact HX2.out
                        have hfin : Asc key a b h1 := halves_asc (h := F) (q := q) ha7.out hsec
                          (fun x g0 g1 => HS7.out.from x ⟨g0, g1⟩) (fun x g0 g1 => ⟨x, g0, g1, HQ.out x g0⟩) HH.out.2.2.2.2
                        have HF := Lib.hid hfin
                        have HSF := Lib.hid (HSw.out.trans (HS7.out.mono (Nat.le_refl _) (by omega)))
                        clear hfin hsec
                        go_wp2_with fail
                        go_end0
                        exact ⟨rfl, h1, HRow.out, HSF.out, HF.out⟩

theorem mergeOK (key : Int → Int) (D : Int → Prop) (g n cap : Nat) (p : Addr) (hn : n ≤ 1000000) (N : Nat) : MergeOK key D g n cap p N := by
  induction N with
  | zero => intro a m b f w h1 h2 h3; omega
  | succ N ih =>
    intro a m b f w hN ham hmb hb hr hkb hin hs1 hs2
    by_cases c1 : m = a + 1
    · subst c1
      have := merge_one key D g n cap a b p f w hmb hb hn hr hkb hin hs2
      rw [show ((a + 1 : Nat) : Int) = (a : Int) + 1 by omega]
      exact this
    · by_cases c2 : b = m + 1
      · subst c2
        have := merge_last key D g n cap a m p f w (by omega) hb hn hr hkb hin hs1
        rw [show ((m + 1 : Nat) : Int) = (m : Int) + 1 by omega]
        exact this
      · exact merge_many key D g n cap p N a m b f w hn (Lib.hid ih) hN (by omega) (by omega) hb hr hkb hin hs1 hs2
end Go.Proofs.Ytgmlaimlcccmhaa
