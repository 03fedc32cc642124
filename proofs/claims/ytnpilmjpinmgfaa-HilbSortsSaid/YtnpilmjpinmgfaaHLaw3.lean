import Derived.Test.YtnpilmjpinmgfaaHLaw2
import Derived.Test.YtnpilmjpinmgfaaCmp
namespace Go.Proofs.Ytnpilmjpinmgfaa
open Go.RowKit Go.Proofs.Ytnpilmjpinmgfaa.Tame
set_option maxHeartbeats 400000

theorem info4 : (Try.prog.info? 4).map (fun i => (i.zero, i.size, i.bytes)) = some (some (.bool false), 1, 1) := by kernel_rfl
/-- Block u holds the flags U. -/
def FlagsAt (w : World) (u n : Nat) (U : Nat → Bool) : Prop := ∃ cu, w.heap[u]? = some (.cells cu 4 (0, 0)) ∧ ∀ m, m < n → cu[m]? = some (.bool (U m))
theorem flags_made {w : World} {u n : Nat} {base : Nat} (h : w.ownsRow base 4 1 (.slice (some ⟨u, 0, none⟩) n n) n (madeCells (Value.bool false).cells (n * 1)).toList) : FlagsAt w u n (fun _ => false) := by
  rcases h.2 with ⟨h1, _⟩ | ⟨g', cap', cur, h1, h2, h3, h4, h5, h6, h7⟩
  · simp at h1
  · simp only [Value.slice.injEq, Option.some.injEq] at h1
    obtain ⟨h1, _, rfl⟩ := h1
    obtain rfl : u = g' := by simpa using congrArg Addr.block h1
    refine ⟨cur, h3, fun m hm => ?_⟩
    have e : cur[m]? = (madeCells (Value.bool false).cells (n * 1)).toList[m]? := by
      rw [← h7, List.getElem?_take, if_pos (by omega)]; simp
    rw [e]
    have e1 : m % 1 = 0 := Nat.mod_one m
    simp [madeCells, Value.cells, hm, e1]
theorem FlagsAt.below {w w' : World} {u n : Nat} {U : Nat → Bool} (h : FlagsAt w u n U) (hb : Below w.heap.size w w') : FlagsAt w' u n U := by
  obtain ⟨cu, h1, h2⟩ := h
  exact ⟨cu, keep2 hb h1, h2⟩
theorem FlagsAt.set {w : World} {u n m0 : Nat} {U : Nat → Bool} (h : FlagsAt w u n U) (hm : m0 < n) : FlagsAt (w.setCell ⟨u, m0, none⟩ (.bool true)) u n (fun m => if m = m0 then true else U m) := by
  obtain ⟨cu, h1, h2⟩ := h
  refine ⟨_, set_block h1, fun m hm' => ?_⟩
  rw [set_at]
  by_cases e : m0 = m
  · subst e
    rw [if_pos rfl, if_pos (lt_size (h2 m0 hm))]
    show some (Value.bool true) = some (Value.bool (if m0 = m0 then true else U m0))
    rw [if_pos rfl]
  · rw [if_neg e, h2 m hm']
    show some (Value.bool (U m)) = some (Value.bool (if m = m0 then true else U m))
    rw [if_neg (fun e2 : m = m0 => e e2.symm)]
theorem refindex_p (k : Nat) (x y : Int) (w : World) (hk : k ≤ 20) (h : 0 ≤ x ∧ x < 2 ^ k ∧ 0 ≤ y ∧ y < 2 ^ k) :
    Calls Try.prog 16 #[.int .i64 k, .agg #[.int .i64 x, .int .i64 y]] w fun e w' => e = .returned (.int .i64 (hix k x y)) ∧ Below w.heap.size w w' := refindex_any k x y w hk h.1 h.2.1 h.2.2.1 h.2.2.2
theorem insB_of {k : Nat} {p : Int × Int} (hk : k ≤ 20) (h : InP k p) : insB k p.1 p.2 = true := by
  unfold insB insM
  rw [Int.toNat_natCast]
  simp only [Bool.and_eq_true, decide_eq_true_eq]
  exact ⟨⟨⟨⟨⟨by omega, by omega⟩, h.1⟩, h.2.2.1⟩, h.2.1⟩, h.2.2.2⟩

/-- What the inner loop keeps: the point is found, and its flag is set; or it is not among those looked at. -/
def FoundS (n i m : Nat) (f h : Fn) (V : Nat → Bool) : Bool → Prop
  | true => Matched n (i + 1) f h V
  | false => Matched n i f h V ∧ ∀ m', m' < m → ¬ (V m' = false ∧ f m' = h i)
set_option maxRecDepth 100000 in
set_option maxHeartbeats 10000000 in
theorem sorts_yes (k : Nat) (b off n cap : Nat) (f : Fn) (w : World) (hk20 : k ≤ 20) (hn0 : 0 < n) (hn : n ≤ 60) (hp : PtsAt w b off n f) (hin : ∀ i, i < n → insB k (f i).1 (f i).2 = true) :
    Calls Try.prog 7 #[.int .i64 k, .slice (some ⟨b, off, none⟩) n cap] w fun e w' => e = .returned (.bool true) ∧ Below w.heap.size w w' := by
  obtain ⟨i0, hi0, hz0', hz1', hz2'⟩ := info_parts info4
  have H1 := Lib.hid (hsort_yes k b off n cap f w hk20 hn0 (by omega) hp hin)
  have HP0 := Lib.hid hp
  have HIN := Lib.hid hin
  clear hp hin
  go_enter Try.func7, Try.ntmps7
  go_wp2_with fail
  refine (H1.out).mono ?_
  rintro e w1 ⟨g, cap', cur, h, rfl, hg, hgb, hcur, hsw, hasc, hb1⟩
  have HP := Lib.hid (HP0.out.below hb1)
  have HG := Lib.hid hgb
  have HC := Lib.hid hcur
  have HSW := Lib.hid hsw
  have HASC := Lib.hid hasc
  have HB1 := Lib.hid hb1
  clear hgb hcur hsw hasc hb1 H1 HP0 hg
  go_wp2_with fail
  go_loopw [7] (fun s7 wr => ∃ i : Nat, i ≤ n ∧ s7 = .int .i64 i ∧ Below w1.heap.size w1 wr) (fun s7 _ => n - (intOf s7).toNat)
  case atStart => exact ⟨0, by omega, rfl, Below.refl _ _⟩
  case round =>
    obtain ⟨i, hi, rfl, hb⟩ := hrel
    by_cases hlt : i < n
    · obtain ⟨c0, c1⟩ := HP.out.below hb i hlt
      have HZ := Lib.hid (HIN.out i hlt)
      generalize f i = A at c0 c1 HZ
      go_wp2_with fail
      refine (refinside_any k A.1 A.2 _).mono ?_
      rintro e w2 ⟨rfl, hb2⟩
      rw [HZ.out]
      have hw := hb.trans (hb2.mono hb.size)
      clear hb2 c0 c1
      go_wp2_with fail
      go_roundw
      case rel => exact ⟨i + 1, hlt, by go_num, hw⟩
      case measure => simp [intOf]; omega
    · obtain ⟨wo, rfl⟩ : ∃ wo : World, wo = wr := ⟨_, rfl⟩
      go_wp2_with (at_make; refine wpList_make_full _ rfl _ _ 61 rfl wo.heap.size 4 i0 (.bool false) 1 Try.underlying61 hi0 hz0' hz1' .i64 .i64 n n n rfl rfl rfl rfl (by rw [hz2']; omega) (by unfold maxLen; omega) (Nat.le_refl _) ?_; intro w3 hown3 hgrow)
      obtain ⟨u, hu⟩ : ∃ u, u = wo.heap.size := ⟨_, rfl⟩
      rw [← hu] at hown3 ⊢
      have hw3 : Below w1.heap.size w1 w3 := hb.grown hgrow hb.size (fun k hk => by cases hk)
      have HF0 := Lib.hid (flags_made hown3)
      have hu1 : w1.heap.size ≤ u := by rw [hu]; exact hb.size
      have hgu : g ≠ u := by have := lt_of_some HG.out; omega
      clear hown3 hgrow hu hb
      have HIN2 := Lib.hid (show AllIn k n h from (show AllIn k n f from fun x hx => insB_in (HIN.out x hx)).sw HSW.out (Nat.le_refl _))
      have HPM := Lib.hid (HSW.out.perm n (Nat.le_refl _))
      go_loopw [9] (fun s9 wr => ∃ (i : Nat) (U : Nat → Bool), s9 = .int .i64 i ∧ i ≤ n ∧ Below w1.heap.size w1 wr ∧ FlagsAt wr u n U ∧ Hid (Matched n i f h U)) (fun s9 _ => n - (intOf s9).toNat)
      case atStart => exact ⟨0, _, rfl, by omega, hw3, HF0.out, Lib.hid (Matched.start n f h)⟩
      case round =>
        obtain ⟨i, U, rfl, hi, hb, hfl, hmt⟩ := hrel
        clear hw3 HF0
        have HFL := Lib.hid hfl
        clear hfl
        obtain ⟨wo2, rfl⟩ : ∃ wo2 : World, wo2 = wr := ⟨_, rfl⟩
        by_cases hlt : i < n
        · have gg : wo2.heap[g]? = some (.cells cur 23 (0, 0)) := (hb.block _ (lt_of_some HG.out)).trans HG.out
          have pA := HC.out i hlt
          have qA := HIN2.out i hlt
          have iA := insB_of hk20 qA
          unfold InP at qA
          generalize hA : h i = A at pA qA iA
          have HA := Lib.hid hA
          clear hA
          have z2 : (i : Int) < (n : Int) := by omega
          have z3 : (0 : Int) ≤ (i : Int) := Int.natCast_nonneg _
          go_upto_region 15 with (fail)
          go_cut [89] (fun s89 wx => s89 = .bool false ∧ Below wo2.heap.size wo2 wx)
          case first =>
            cases i with
            | zero =>
              have z5 : ¬ ((0 : Int) < ((0 : Nat) : Int)) := by omega
              refine draws_hid (by kernel_rfl) (by kernel_rfl) (by kernel_rfl) (fun W hW ops hops => ?_)
              subst hW
              have o7 : (ops[7]?).bind (fun x => x.dst) = some 70 := by rw [hops]; rfl
              have o10 : (ops[10]?).bind (fun x => x.dst) = some 73 := by rw [hops]; rfl
              clear hops
              have c0 : ∀ xl : Later W [], xl.w.cell? ⟨g, 0 * 2, none⟩ = some (.int .i64 A.1) := fun xl => cell_of_block (Later.at0 gg xl) pA.1
              have c1 : ∀ xl : Later W [], xl.w.cell? ⟨g, 0 * 2 + 1, none⟩ = some (.int .i64 A.2) := fun xl => cell_of_block (Later.at0 gg xl) pA.2
              repeat (refine walkT_step (fun K hK => ?_); go_simp; first | (refine hK _ _ ?_; clear hK K) | (refine ⟨_, fun xl => refinside_any _ _ _ _, ?_⟩; refine hK _ _ ?_; clear hK K) | (refine ⟨_, fun xl => refindex_p k _ _ _ hk20 (by assumption), ?_⟩; refine hK _ _ ?_; clear hK K))
              refine walkT_nil ?_
              intro w5 hc
              have hbc := hc.below
              clear hc c0 c1 o7 o10
              go_wp2_with fail
              go_meet
              exact ⟨rfl, hbc⟩
            | succ ip =>
              have pB := HC.out ip (by omega)
              have qB := HIN2.out ip (by omega)
              have hle := HASC.out ip (ip + 1) (Nat.zero_le _) (by omega) (by omega)
              unfold InP at qB
              unfold keyP at hle
              rw [HA.out] at hle
              generalize h ip = B at pB qB hle
              have hle2 : ¬ (hix k A.1 A.2 < hix k B.1 B.2) := by omega
              have hwp : IntKind.i64.wrap (ip : Int) = (ip : Int) := IntWalk.i64_in _ (by omega)
              have z5 : (0 : Int) < (ip : Int) + 1 := by omega
              have z6 : (ip : Int) + 1 < (n : Int) := by omega
              have z7 : (ip : Int) < (n : Int) := by omega
              have z8 : (0 : Int) ≤ (ip : Int) + 1 := by omega
              have z9 : ((ip : Int) + 1).toNat = ip + 1 := by omega
              refine draws_hid (by kernel_rfl) (by kernel_rfl) (by kernel_rfl) (fun W hW ops hops => ?_)
              subst hW
              have o7 : (ops[7]?).bind (fun x => x.dst) = some 70 := by rw [hops]; rfl
              have o10 : (ops[10]?).bind (fun x => x.dst) = some 73 := by rw [hops]; rfl
              clear hops
              have c0 : ∀ xl : Later W [], xl.w.cell? ⟨g, (ip + 1) * 2, none⟩ = some (.int .i64 A.1) := fun xl => cell_of_block (Later.at0 gg xl) pA.1
              have c1 : ∀ xl : Later W [], xl.w.cell? ⟨g, (ip + 1) * 2 + 1, none⟩ = some (.int .i64 A.2) := fun xl => cell_of_block (Later.at0 gg xl) pA.2
              have d0 : ∀ xl : Later W [], xl.w.cell? ⟨g, ip * 2, none⟩ = some (.int .i64 B.1) := fun xl => cell_of_block (Later.at0 gg xl) pB.1
              have d1 : ∀ xl : Later W [], xl.w.cell? ⟨g, ip * 2 + 1, none⟩ = some (.int .i64 B.2) := fun xl => cell_of_block (Later.at0 gg xl) pB.2
              repeat (refine walkT_step (fun K hK => ?_); go_simp; first | (refine hK _ _ ?_; clear hK K) | (refine ⟨_, fun xl => refinside_any _ _ _ _, ?_⟩; refine hK _ _ ?_; clear hK K) | (refine ⟨_, fun xl => refindex_p k _ _ _ hk20 (by assumption), ?_⟩; refine hK _ _ ?_; clear hK K))
              refine walkT_nil ?_
              intro w5 hc
              have hbc := hc.below
              clear hc c0 c1 d0 d1 o7 o10
              go_wp2_with fail
              go_meet
              exact ⟨rfl, hbc⟩
          case rest =>
            obtain ⟨rfl, hbx⟩ := hcut
            have hb2 := Lib.hid (hb.trans (hbx.mono hb.size))
            have HF2 := Lib.hid (HFL.out.below hbx)
            clear hbx gg HFL
            go_wp2_with fail
            go_loopw [10, 11] (fun s10 s11 wr => ∃ (m : Nat) (fd : Bool) (V : Nat → Bool), s10 = .bool fd ∧ s11 = .int .i64 m ∧ m ≤ n ∧ Below w1.heap.size w1 wr ∧ FlagsAt wr u n V ∧ Hid (FoundS n i m f h V fd)) (fun _ s11 _ => n - (intOf s11).toNat)
            case atStart => exact ⟨0, false, U, rfl, rfl, by omega, hb2.out, HF2.out, Lib.hid ⟨hmt.out, fun m' h' => by omega⟩⟩
            case round =>
              clear hb hmt hb2 HF2
              obtain ⟨m, fd, V, rfl, rfl, hmn, hb3, hfl, hfs⟩ := hrel
              have HFV := Lib.hid hfl
              cases fd with
              | true =>
                clear hfl
                have HM := Lib.hid (show Matched n (i + 1) f h V from hfs.out)
                go_wp2_with fail
                all_goals
                  go_roundw
                  case rel => exact ⟨i + 1, V, by go_num, hlt, hb3, HFV.out, HM⟩
                  case measure => simp [intOf]; omega
              | false =>
                by_cases hm : m < n
                · obtain ⟨cu, hcu, hcv⟩ := hfl
                  have hvm := hcv m hm
                  have hlw := HP.out.below hb3
                  have gg3 : wr.heap[g]? = some (.cells cur 23 (0, 0)) := (hb3.block _ (lt_of_some HG.out)).trans HG.out
                  clear hcv
                  have z6 : (m : Int) < (n : Int) := by omega
                  have z7 : (0 : Int) ≤ (m : Int) := Int.natCast_nonneg _
                  cases hV : V m
                  · rw [hV] at hvm
                    have HV := Lib.hid hV
                    clear hV
                    by_cases he : f m = A
                    · have HFM := Lib.hid he
                      clear he
                      go_upto_region 21 with (fail)
                      refine draws_hid (by kernel_rfl) (by kernel_rfl) (by kernel_rfl) (fun W hW ops hops => ?_)
                      subst hW
                      have o5 : (ops[5]?).bind (fun x => x.dst) = some 105 := by rw [hops]; rfl
                      clear hops
                      have u0 : ∀ xl : Later W [], xl.w.cell? ⟨u, m, none⟩ = some (.bool false) := fun xl => cell_of_block (Later.at0 hcu xl) hvm
                      have l0 : ∀ xl : Later W [], xl.w.cell? ⟨b, off + m * 2, none⟩ = some (.int .i64 A.1) := fun xl => (hlw.below (xl.h.below (Nat.le_refl _) (fun d hd => by cases hd)) m hm).1.trans (by rw [HFM.out])
                      have l1 : ∀ xl : Later W [], xl.w.cell? ⟨b, off + m * 2 + 1, none⟩ = some (.int .i64 A.2) := fun xl => (hlw.below (xl.h.below (Nat.le_refl _) (fun d hd => by cases hd)) m hm).2.trans (by rw [HFM.out])
                      have s0 : ∀ xl : Later W [], xl.w.cell? ⟨g, i * 2, none⟩ = some (.int .i64 A.1) := fun xl => cell_of_block (Later.at0 gg3 xl) pA.1
                      have s1 : ∀ xl : Later W [], xl.w.cell? ⟨g, i * 2 + 1, none⟩ = some (.int .i64 A.2) := fun xl => cell_of_block (Later.at0 gg3 xl) pA.2
                      repeat (refine walkT_step (fun K hK => ?_); go_simp; first | (refine hK _ _ ?_; clear hK K) | (refine ⟨_, fun xl => calm_eq2, ?_⟩; refine hK _ _ ?_; clear hK K))
                      refine walkT_nil ?_
                      intro w5 hc
                      have hb5 := Lib.hid (hb3.trans (hc.below.mono hb3.size))
                      have HF5 := Lib.hid (HFV.out.below hc.below)
                      clear hc u0 l0 l1 s0 s1 o5
                      have hcell := Lib.hid (HF5.out.set hm)
                      obtain ⟨cu5, hcu5, hcv5⟩ := HF5.out
                      have f5 : w5.frozen? ⟨u, m, none⟩ = false := free_of_block hcu5
                      have c5 : w5.cell? ⟨u, m, none⟩ = some (.bool false) := cell_of_block hcu5 ((hcv5 m hm).trans (by rw [HV.out]))
                      clear hcv5 hcu5 hcu hvm hlw gg3
                      go_wp2_with fail
                      go_roundw
                      case rel => exact ⟨m + 1, true, _, rfl, by go_num, hm, hb5.out.setCell hu1 _, hcell.out, Lib.hid (Matched.next hfs.out.1 hm HV.out (by rw [HFM.out, HA.out]))⟩
                      case measure => simp [intOf]; omega
                    · have hnf : ∀ m', m' < m + 1 → ¬ (V m' = false ∧ f m' = h i) := fun m' h1 h2 => by
                        by_cases e : m' = m
                        · subst e; exact he (by rw [h2.2, HA.out])
                        · exact hfs.out.2 m' (by omega) h2
                      have HNF := Lib.hid hnf
                      clear hnf
                      obtain ⟨C, hC⟩ : ∃ C, f m = C := ⟨_, rfl⟩
                      rw [hC] at he
                      have HFM := Lib.hid hC
                      clear hC
                      have hcc : (decide (C.1 = A.1) && decide (C.2 = A.2)) = false := by
                        by_cases e1 : C.1 = A.1
                        · have e2 : ¬ C.2 = A.2 := fun e2 => he (Prod.ext e1 e2)
                          simp [e1, e2]
                        · simp [e1]
                      clear he
                      go_upto_region 21 with (fail)
                      refine draws_hid (by kernel_rfl) (by kernel_rfl) (by kernel_rfl) (fun W hW ops hops => ?_)
                      subst hW
                      have o5 : (ops[5]?).bind (fun x => x.dst) = some 105 := by rw [hops]; rfl
                      clear hops
                      have u0 : ∀ xl : Later W [], xl.w.cell? ⟨u, m, none⟩ = some (.bool false) := fun xl => cell_of_block (Later.at0 hcu xl) hvm
                      have l0 : ∀ xl : Later W [], xl.w.cell? ⟨b, off + m * 2, none⟩ = some (.int .i64 C.1) := fun xl => (hlw.below (xl.h.below (Nat.le_refl _) (fun d hd => by cases hd)) m hm).1.trans (by rw [HFM.out])
                      have l1 : ∀ xl : Later W [], xl.w.cell? ⟨b, off + m * 2 + 1, none⟩ = some (.int .i64 C.2) := fun xl => (hlw.below (xl.h.below (Nat.le_refl _) (fun d hd => by cases hd)) m hm).2.trans (by rw [HFM.out])
                      have s0 : ∀ xl : Later W [], xl.w.cell? ⟨g, i * 2, none⟩ = some (.int .i64 A.1) := fun xl => cell_of_block (Later.at0 gg3 xl) pA.1
                      have s1 : ∀ xl : Later W [], xl.w.cell? ⟨g, i * 2 + 1, none⟩ = some (.int .i64 A.2) := fun xl => cell_of_block (Later.at0 gg3 xl) pA.2
                      repeat (refine walkT_step (fun K hK => ?_); go_simp; first | (refine hK _ _ ?_; clear hK K) | (refine ⟨_, fun xl => calm_eq2, ?_⟩; refine hK _ _ ?_; clear hK K))
                      refine walkT_nil ?_
                      intro w5 hc
                      have hb5 := Lib.hid (hb3.trans (hc.below.mono hb3.size))
                      have HF5 := Lib.hid (HFV.out.below hc.below)
                      clear hc u0 l0 l1 s0 s1 o5
                      try rw [hcc]
                      clear hcu hvm hlw gg3
                      go_wp2_with fail
                      go_roundw
                      case rel => exact ⟨m + 1, false, V, rfl, by go_num, hm, hb5.out, HF5.out, Lib.hid ⟨hfs.out.1, HNF.out⟩⟩
                      case measure => simp [intOf]; omega
                  · rw [hV] at hvm
                    have HNF := Lib.hid (fun m' (h1 : m' < m + 1) (h2 : V m' = false ∧ f m' = h i) => show False by
                      by_cases e : m' = m
                      · subst e; rw [hV] at h2; cases h2.1
                      · exact hfs.out.2 m' (by omega) h2)
                    clear hV
                    go_upto_region 21 with (fail)
                    refine draws_hid (by kernel_rfl) (by kernel_rfl) (by kernel_rfl) (fun W hW ops hops => ?_)
                    subst hW
                    have o5 : (ops[5]?).bind (fun x => x.dst) = some 105 := by rw [hops]; rfl
                    clear hops
                    have u0 : ∀ xl : Later W [], xl.w.cell? ⟨u, m, none⟩ = some (.bool true) := fun xl => cell_of_block (Later.at0 hcu xl) hvm
                    repeat (refine walkT_step (fun K hK => ?_); go_simp; first | (refine hK _ _ ?_; clear hK K) | (refine ⟨_, fun xl => calm_eq2, ?_⟩; refine hK _ _ ?_; clear hK K))
                    refine walkT_nil ?_
                    intro w5 hc
                    have hb5 := Lib.hid (hb3.trans (hc.below.mono hb3.size))
                    have HF5 := Lib.hid (HFV.out.below hc.below)
                    clear hc u0 o5
                    clear hcu hvm hlw gg3
                    go_wp2_with fail
                    go_roundw
                    case rel => exact ⟨m + 1, false, V, rfl, by go_num, hm, hb5.out, HF5.out, Lib.hid ⟨hfs.out.1, HNF.out⟩⟩
                    case measure => simp [intOf]; omega
                · exact absurd (Matched.finds hfs.out.1 HPM.out hlt (fun m' h1 => hfs.out.2 m' (by omega))) id
        · go_wp2_with fail
          refine (hawake_any _).mono ?_
          rintro e w9 ⟨rfl, hb9⟩
          go_wp2_with fail
          go_ret
          exact ⟨rfl, (HB1.out.trans (hb.mono HB1.out.size)).trans (hb9.mono (by have := HB1.out.size; have := hb.size; omega))⟩
end Go.Proofs.Ytnpilmjpinmgfaa
