/-
  WHICH HIERARCHIES THERE MAY BE, BY THE DOCUMENT. CONDITIONS: at most 40 ranks and 400 links.
-/
import Derived.Test.YtgmlaimlcccmhaaNRefLink
namespace Go.Proofs.Ytgmlaimlcccmhaa
open Go.RowKit Go.Proofs.Ytgmlaimlcccmhaa.Tame
set_option maxHeartbeats 400000

theorem refranks_val {p : Option Addr} {n cap : Nat} {rk : Fn} {w : World} {v : Bool} (hn : n ≤ 40) (hr : IntsAt w p n rk) (hv : bOf (RanksOK n rk) = v) :
    Calls Try.prog 15 #[.slice p n cap] w fun e w' => e = .returned (.bool v) ∧ Below w.heap.size w w' := by
  have := refranks_any p n cap rk w hn hr
  rwa [hv] at this
theorem reflink_low {pl : Option Addr} {nl cl : Nat} {ls : Ls} {f t : Int} {w : World} (hnl : nl ≤ 400) (hl : LinksAt w pl nl ls) :
    Calls Try.prog 11 #[.slice pl nl cl, .int .i64 f, .int .i64 t] w fun e w' => e = .returned (.int .i64 (lnkR ls f t nl)) ∧ Below w.heap.size w w' :=
  (reflink_any pl nl cl ls f t w hnl hl).mono fun _ _ ⟨h1, h2⟩ => ⟨h1, h2 ▸ Below.refl _ _⟩

set_option maxRecDepth 100000 in
set_option maxHeartbeats 10000000 in
theorem refmay_any (pr : Option Addr) (nr cr : Nat) (pl : Option Addr) (nl cl : Nat) (rk : Fn) (ls : Ls) (w : World) (hnr : nr ≤ 40) (hnl : nl ≤ 400) (hh : HAt w pr nr rk pl nl ls) :
    Calls Try.prog 9 #[HV pr nr cr pl nl cl] w fun e w' => e = .returned (.bool (bOf (MayP nr rk nl ls))) ∧ Below w.heap.size w w' := by
  have HH := Lib.hid hh
  clear hh
  generalize hv : bOf (MayP nr rk nl ls) = v
  have HV := Lib.hid hv
  clear hv
  go_enter Try.func9, Try.ntmps9
  go_upto_region 1 with (fail)
  refine plain_hid (fun W hW ops hops => ?_)
  have hbW : Below w.heap.size w W := by rw [hW]; go_grown
  have gB : BoxH W w.heap.size pr nr cr pl nl cl := by rw [hW]; exact heap_alloc_is rfl
  have hBs : w.heap.size < W.heap.size := lt_of_some gB
  clear hW
  have o4 : (ops[4]?).bind (fun x => x.dst) = some 13 := by rw [hops]; rfl
  have o10 : (ops[10]?).bind (fun x => x.dst) = some 19 := by rw [hops]; rfl
  clear hops
  have f0 : ∀ xl : Later W [], xl.w.cell? ⟨w.heap.size, 0, none⟩ = some (.slice pr nr cr) := fun xl => cell_of_block (Later.at0 gB xl) rfl
  have f1 : ∀ xl : Later W [], xl.w.cell? ⟨w.heap.size, 1, none⟩ = some (.slice pl nl cl) := fun xl => cell_of_block (Later.at0 gB xl) rfl
  have d1 : decide ((4000 : Int) < (nr : Int)) = false := decide_eq_false (by omega)
  have d2 : decide ((200000 : Int) < (nl : Int)) = false := decide_eq_false (by omega)
  have hlat := Lib.hid (fun (xl : Later W []) => hbW.trans ((xl.h.below (Nat.le_refl _) (fun d hd => by cases hd) : Below W.heap.size W xl.w).mono hbW.size))
  cases hR : bOf (RanksOK nr rk)
  · as_aux_lemma =>
    have HR := Lib.hid hR
    have HV2 := Lib.hid (show false = v by rw [← HV.out, bOf_no (fun h : MayP nr rk nl ls => not_bOf hR h.1)])
    clear hR
    repeat (refine walkT_step (fun K hK => ?_); go_simp; first | (refine hK _ _ ?_; clear hK K) | (refine ⟨_, fun xl => refranks_val hnr (HH.out.r.below (hlat.out xl)) HR.out, ?_⟩; refine hK _ _ ?_; clear hK K))
    refine walkT_nil ?_
    intro w5 hc5
    have hb5 := hbW.trans (hc5.below.mono hbW.size)
    clear hc5 o4 o10 f0 f1 d1 d2 gB hlat
    go_wp2_with fail
    go_ret
    exact ⟨ret_bool HV2.out, hb5⟩
  · have HR := Lib.hid hR
    clear hR
    repeat (refine walkT_step (fun K hK => ?_); go_simp; first | (refine hK _ _ ?_; clear hK K) | (refine ⟨_, fun xl => refranks_val hnr (HH.out.r.below (hlat.out xl)) HR.out, ?_⟩; refine hK _ _ ?_; clear hK K))
    refine walkT_nil ?_
    intro w5 hc5
    have hb5 := hbW.trans (hc5.below.mono hbW.size)
    have gB5 : BoxH w5 w.heap.size pr nr cr pl nl cl := hc5.at0 gB
    clear hc5 o4 o10 f0 f1 d1 d2 gB hlat hbW hBs
    go_wp2_with fail
    go_loopw [3] (fun s3 wr => ∃ i : Nat, s3 = .int .i64 i ∧ i ≤ nl ∧ Below w.heap.size w wr ∧ BoxH wr w.heap.size pr nr cr pl nl cl ∧ Hid (∀ j, j < i → LkOK nr ls j)) (fun s3 _ => nl - (intOf s3).toNat)
    case atStart => exact ⟨0, rfl, by omega, hb5, gB5, Lib.hid (fun j hj => absurd hj (Nat.not_lt_zero _))⟩
    case round =>
      clear hb5 gB5
      obtain ⟨i, rfl, hi, hb, hbox, hok⟩ := hrel
      have HBX := Lib.hid hbox
      clear hbox
      have b1 : wr.cell? ⟨w.heap.size, 1, none⟩ = some (.slice pl nl cl) := cell_of_block HBX.out rfl
      by_cases hlt : i < nl
      · as_aux_lemma =>
        obtain ⟨b, off, rfl, hc⟩ := HH.out.l.below hb (by omega)
        have hci := hc i hlt
        have HCI := Lib.hid hc
        clear hc
        generalize hA : ls i = A at hci
        have HA := Lib.hid hA
        clear hA
        obtain ⟨c0, c1, c2, c3⟩ := hci
        have hbl := World.block_lt_of_cell? wr _ c0
        simp only at hbl
        have hbx : w.heap.size < wr.heap.size := lt_of_some HBX.out
        have z1 : (i : Int) < (nl : Int) := by omega
        have z2 : (0 : Int) ≤ (i : Int) := Int.natCast_nonneg _
        go_upto_region 7 with (fail)
        refine plain_hid (fun W hW ops hops => ?_)
        have hbW : Below w.heap.size w W := by rw [hW]; exact hb.alloc hb.size _
        have gX : W.heap[wr.heap.size]? = some (.cells #[.int .i64 A.a, .int .i64 A.b, .int .i64 A.w, .int .i64 A.m] 40) := by rw [hW]; exact heap_alloc_is rfl
        have gB : W.heap[w.heap.size]? = some (.cells #[.slice pr nr cr, .slice (some ⟨b, off, none⟩) nl cl] 25 (0, 0)) := by rw [hW]; exact heap_alloc_lt HBX.out
        have hcW := Lib.hid (show ∀ j, j < nl → LkIn W b (off + j * 4) (ls j) from fun j hj => by rw [hW]; exact (HCI.out j hj).below (by go_grown))
        clear hW c0 c1 c2 c3 HCI HBX b1
        have o3 : (ops[3]?).bind (fun x => x.dst) = some 40 := by rw [hops]; rfl
        have o11 : (ops[11]?).bind (fun x => x.dst) = some 48 := by rw [hops]; rfl
        have o16 : (ops[16]?).bind (fun x => x.dst) = some 53 := by rw [hops]; rfl
        have o24 : (ops[24]?).bind (fun x => x.dst) = some 61 := by rw [hops]; rfl
        have o31 : (ops[31]?).bind (fun x => x.dst) = some 68 := by rw [hops]; rfl
        have o36 : (ops[36]?).bind (fun x => x.dst) = some 73 := by rw [hops]; rfl
        clear hops
        have f0 : ∀ xl : Later W [], xl.w.cell? ⟨w.heap.size, 0, none⟩ = some (.slice pr nr cr) := fun xl => cell_of_block (Later.at0 gB xl) rfl
        have f2 : ∀ xl : Later W [], xl.w.cell? ⟨wr.heap.size, 0, none⟩ = some (.int .i64 A.a) := fun xl => cell_of_block (Later.at0 gX xl) rfl
        have f3 : ∀ xl : Later W [], xl.w.cell? ⟨wr.heap.size, 1, none⟩ = some (.int .i64 A.b) := fun xl => cell_of_block (Later.at0 gX xl) rfl
        have f4 : ∀ xl : Later W [], xl.w.cell? ⟨wr.heap.size, 2, none⟩ = some (.int .i64 A.w) := fun xl => cell_of_block (Later.at0 gX xl) rfl
        by_cases q0 : 0 ≤ A.a
        · have d1 : decide (A.a < 0) = false := decide_eq_false (by omega)
          by_cases q1 : A.a < (nr : Int)
          · have d2 : decide ((nr : Int) ≤ A.a) = false := decide_eq_false (by omega)
            by_cases q2 : 0 ≤ A.b
            · have d3 : decide (A.b < 0) = false := decide_eq_false (by omega)
              by_cases q3 : A.b < (nr : Int)
              · have d4 : decide ((nr : Int) ≤ A.b) = false := decide_eq_false (by omega)
                by_cases q4 : A.a = A.b
                · as_aux_lemma =>
                  have d5 : (A.a == A.b) = true := beq_iff_eq.2 q4
                  have HV2 := Lib.hid (show false = v by rw [← HV.out, bOf_no (fun h : MayP nr rk nl ls => by have h' := h.2.1 i hlt; unfold LkOK Vtx at h'; rw [HA.out] at h'; omega)])
                  clear q4
                  repeat (refine walkT_step (fun K hK => ?_); go_simp; first | (refine hK _ _ ?_; clear hK K))
                  refine walkT_nil ?_
                  intro w5 hc
                  have hb5 := hbW.trans (hc.below.mono hbW.size)
                  clear hc f0 f2 f3 f4 o3 o11 o16 o24 o31 o36 gX gB hcW
                  go_wp2_with fail
                  go_ret
                  exact ⟨ret_bool HV2.out, hb5⟩
                · have d5 : (A.a == A.b) = false := beq_eq_false_iff_ne.2 q4
                  have HNE := Lib.hid q4
                  clear q4
                  by_cases q5 : 0 ≤ A.w
                  · have d6 : decide (A.w < 0) = false := decide_eq_false (by omega)
                    by_cases q6 : A.w ≤ 1152921504606846976
                    · have d7 : decide ((1152921504606846976 : Int) < A.w) = false := decide_eq_false (by omega)
                      repeat (refine walkT_step (fun K hK => ?_); go_simp; first | (refine hK _ _ ?_; clear hK K))
                      refine walkT_nil ?_
                      intro w5 hc
                      have hb5 := hbW.trans (hc.below.mono hbW.size)
                      replace gX := hc.at0 gX
                      replace gB := hc.at0 gB
                      have hc5 := Lib.hid (fun j (hj : j < nl) => (hcW.out j hj).below hc.below)
                      clear hc f0 f2 f3 f4 o3 o11 o16 o24 o31 o36 hcW d1 d2 d3 d4 d5 d6 d7
                      have hXs : wr.heap.size < w5.heap.size := lt_of_some gX
                      go_upto_region 9 with (fail)
                      cases i with
                      | zero =>
                        have z5 : ¬ ((0 : Int) < ((0 : Nat) : Int)) := by omega
                        have HOK := Lib.hid (fun j (hj : j < 0 + 1) => show LkOK nr ls j by
                          have e : j = 0 := by omega
                          subst e
                          unfold LkOK Vtx
                          rw [HA.out]
                          exact ⟨⟨q0, q1⟩, ⟨q2, q3⟩, HNE.out, q5, q6, fun h => absurd h (Nat.lt_irrefl _)⟩)
                        refine draws_hid (by kernel_rfl) (by kernel_rfl) (by kernel_rfl) (fun W hW ops hops => ?_)
                        subst hW
                        have o2 : (ops[2]?).bind (fun x => x.dst) = some 80 := by rw [hops]; rfl
                        have o13 : (ops[13]?).bind (fun x => x.dst) = some 91 := by rw [hops]; rfl
                        have o24 : (ops[24]?).bind (fun x => x.dst) = some 102 := by rw [hops]; rfl
                        clear hops
                        repeat (refine walkT_step (fun K hK => ?_); go_simp; first | (refine hK _ _ ?_; clear hK K))
                        refine walkT_nil ?_
                        intro w6 hc
                        have hb6 := hb5.trans (hc.below.mono hb5.size)
                        have hBX6 := Lib.hid (hc.at0 gB)
                        clear hc o2 o13 o24 gX gB
                        go_wp2_with fail
                        go_roundw
                        case rel => exact ⟨1, rfl, hlt, hb6, hBX6.out, HOK⟩
                        case measure => simp [intOf]; omega
                      | succ ip =>
                        have hcp := hc5.out ip (by omega)
                        generalize hB : ls ip = B at hcp
                        have HB := Lib.hid hB
                        clear hB
                        have hwp : IntKind.i64.wrap (ip : Int) = (ip : Int) := IntWalk.i64_in _ (by omega)
                        have z5 : (0 : Int) < (ip : Int) + 1 := by omega
                        have z7 : (ip : Int) < (nl : Int) := by omega
                        have z8 : (0 : Int) ≤ (ip : Int) := Int.natCast_nonneg _
                        refine draws_hid (by kernel_rfl) (by kernel_rfl) (by kernel_rfl) (fun W hW ops hops => ?_)
                        subst hW
                        have o2 : (ops[2]?).bind (fun x => x.dst) = some 80 := by rw [hops]; rfl
                        have o13 : (ops[13]?).bind (fun x => x.dst) = some 91 := by rw [hops]; rfl
                        have o24 : (ops[24]?).bind (fun x => x.dst) = some 102 := by rw [hops]; rfl
                        clear hops
                        have f1 : ∀ xl : Later W [], xl.w.cell? ⟨w.heap.size, 1, none⟩ = some (.slice (some ⟨b, off, none⟩) nl cl) := fun xl => cell_of_block (Later.at0 gB xl) rfl
                        have f2 : ∀ xl : Later W [], xl.w.cell? ⟨wr.heap.size, 0, none⟩ = some (.int .i64 A.a) := fun xl => cell_of_block (Later.at0 gX xl) rfl
                        have f3 : ∀ xl : Later W [], xl.w.cell? ⟨wr.heap.size, 1, none⟩ = some (.int .i64 A.b) := fun xl => cell_of_block (Later.at0 gX xl) rfl
                        have k0 : ∀ xl : Later W [], xl.w.cell? ⟨b, off + ip * 4, none⟩ = some (.int .i64 B.a) := cellLater hcp.1
                        have k1 : ∀ xl : Later W [], xl.w.cell? ⟨b, off + ip * 4 + 1, none⟩ = some (.int .i64 B.b) := cellLater hcp.2.1
                        clear hcp hc5
                        by_cases p1 : A.a < B.a
                        · as_aux_lemma =>
                          have HV2 := Lib.hid (show false = v by rw [← HV.out, bOf_no (fun h : MayP nr rk nl ls => by have h' := (h.2.1 (ip + 1) hlt).2.2.2.2.2 (by omega); unfold LtL at h'; rw [HA.out, Nat.add_sub_cancel, HB.out] at h'; omega)])
                          have e1 : decide (A.a < B.a) = true := decide_eq_true p1
                          repeat (refine walkT_step (fun K hK => ?_); go_simp; first | (refine hK _ _ ?_; clear hK K))
                          refine walkT_nil ?_
                          intro w6 hc
                          have hb6 := hb5.trans (hc.below.mono hb5.size)
                          have hBX6 := Lib.hid (hc.at0 gB)
                          clear hc o2 o13 o24 gX gB f1 f2 f3 k0 k1 hwp
                          go_wp2_with fail
                          go_ret
                          exact ⟨ret_bool HV2.out, hb6⟩
                        · by_cases p2 : B.a = A.a
                          · by_cases p3 : A.b ≤ B.b
                            · as_aux_lemma =>
                              have HV2 := Lib.hid (show false = v by rw [← HV.out, bOf_no (fun h : MayP nr rk nl ls => by have h' := (h.2.1 (ip + 1) hlt).2.2.2.2.2 (by omega); unfold LtL at h'; rw [HA.out, Nat.add_sub_cancel, HB.out] at h'; omega)])
                              have e1 : decide (A.a < B.a) = false := decide_eq_false p1
                              have e2 : (B.a == A.a) = true := beq_iff_eq.2 p2
                              have e3 : decide (A.b ≤ B.b) = true := decide_eq_true p3
                              clear p1 p2 p3
                              repeat (refine walkT_step (fun K hK => ?_); go_simp; first | (refine hK _ _ ?_; clear hK K))
                              refine walkT_nil ?_
                              intro w6 hc
                              have hb6 := hb5.trans (hc.below.mono hb5.size)
                              have hBX6 := Lib.hid (hc.at0 gB)
                              clear hc o2 o13 o24 gX gB f1 f2 f3 k0 k1 hwp
                              go_wp2_with fail
                              go_ret
                              exact ⟨ret_bool HV2.out, hb6⟩
                            · as_aux_lemma =>
                              have HOK := Lib.hid (fun j (hj : j < ip + 1 + 1) => show LkOK nr ls j by
                                by_cases e : j = ip + 1
                                · subst e
                                  unfold LkOK Vtx LtL
                                  rw [HA.out, Nat.add_sub_cancel, HB.out]
                                  exact ⟨⟨q0, q1⟩, ⟨q2, q3⟩, HNE.out, q5, q6, fun _ => by omega⟩
                                · exact hok.out j (by omega))
                              have e1 : decide (A.a < B.a) = false := decide_eq_false p1
                              have e2 : (B.a == A.a) = true := beq_iff_eq.2 p2
                              have e3 : decide (A.b ≤ B.b) = false := decide_eq_false p3
                              clear p1 p2 p3
                              repeat (refine walkT_step (fun K hK => ?_); go_simp; first | (refine hK _ _ ?_; clear hK K))
                              refine walkT_nil ?_
                              intro w6 hc
                              have hb6 := hb5.trans (hc.below.mono hb5.size)
                              have hBX6 := Lib.hid (hc.at0 gB)
                              clear hc o2 o13 o24 gX gB f1 f2 f3 k0 k1 hwp
                              go_wp2_with fail
                              go_roundw
                              case rel => exact ⟨ip + 1 + 1, by go_num, hlt, hb6, hBX6.out, HOK⟩
                              case measure => simp [intOf]; omega
                          · as_aux_lemma =>
                            have HOK := Lib.hid (fun j (hj : j < ip + 1 + 1) => show LkOK nr ls j by
                              by_cases e : j = ip + 1
                              · subst e
                                unfold LkOK Vtx LtL
                                rw [HA.out, Nat.add_sub_cancel, HB.out]
                                exact ⟨⟨q0, q1⟩, ⟨q2, q3⟩, HNE.out, q5, q6, fun _ => by omega⟩
                              · exact hok.out j (by omega))
                            have e1 : decide (A.a < B.a) = false := decide_eq_false p1
                            have e2 : (B.a == A.a) = false := beq_eq_false_iff_ne.2 p2
                            clear p1 p2
                            repeat (refine walkT_step (fun K hK => ?_); go_simp; first | (refine hK _ _ ?_; clear hK K))
                            refine walkT_nil ?_
                            intro w6 hc
                            have hb6 := hb5.trans (hc.below.mono hb5.size)
                            have hBX6 := Lib.hid (hc.at0 gB)
                            clear hc o2 o13 o24 gX gB f1 f2 f3 k0 k1 hwp
                            go_wp2_with fail
                            go_roundw
                            case rel => exact ⟨ip + 1 + 1, by go_num, hlt, hb6, hBX6.out, HOK⟩
                            case measure => simp [intOf]; omega
                    · as_aux_lemma =>
                      have d7 : decide ((1152921504606846976 : Int) < A.w) = true := decide_eq_true (by omega)
                      have HV2 := Lib.hid (show false = v by rw [← HV.out, bOf_no (fun h : MayP nr rk nl ls => by have h' := h.2.1 i hlt; unfold LkOK Vtx at h'; rw [HA.out] at h'; omega)])
                      repeat (refine walkT_step (fun K hK => ?_); go_simp; first | (refine hK _ _ ?_; clear hK K))
                      refine walkT_nil ?_
                      intro w5 hc
                      have hb5 := hbW.trans (hc.below.mono hbW.size)
                      clear hc f0 f2 f3 f4 o3 o11 o16 o24 o31 o36 gX gB hcW
                      go_wp2_with fail
                      go_ret
                      exact ⟨ret_bool HV2.out, hb5⟩
                  · as_aux_lemma =>
                    have d6 : decide (A.w < 0) = true := decide_eq_true (by omega)
                    have HV2 := Lib.hid (show false = v by rw [← HV.out, bOf_no (fun h : MayP nr rk nl ls => by have h' := h.2.1 i hlt; unfold LkOK Vtx at h'; rw [HA.out] at h'; omega)])
                    repeat (refine walkT_step (fun K hK => ?_); go_simp; first | (refine hK _ _ ?_; clear hK K))
                    refine walkT_nil ?_
                    intro w5 hc
                    have hb5 := hbW.trans (hc.below.mono hbW.size)
                    clear hc f0 f2 f3 f4 o3 o11 o16 o24 o31 o36 gX gB hcW
                    go_wp2_with fail
                    go_ret
                    exact ⟨ret_bool HV2.out, hb5⟩
              · as_aux_lemma =>
                have d4 : decide ((nr : Int) ≤ A.b) = true := decide_eq_true (by omega)
                have HV2 := Lib.hid (show false = v by rw [← HV.out, bOf_no (fun h : MayP nr rk nl ls => by have h' := h.2.1 i hlt; unfold LkOK Vtx at h'; rw [HA.out] at h'; omega)])
                repeat (refine walkT_step (fun K hK => ?_); go_simp; first | (refine hK _ _ ?_; clear hK K))
                refine walkT_nil ?_
                intro w5 hc
                have hb5 := hbW.trans (hc.below.mono hbW.size)
                clear hc f0 f2 f3 f4 o3 o11 o16 o24 o31 o36 gX gB hcW
                go_wp2_with fail
                go_ret
                exact ⟨ret_bool HV2.out, hb5⟩
            · as_aux_lemma =>
              have d3 : decide (A.b < 0) = true := decide_eq_true (by omega)
              have HV2 := Lib.hid (show false = v by rw [← HV.out, bOf_no (fun h : MayP nr rk nl ls => by have h' := h.2.1 i hlt; unfold LkOK Vtx at h'; rw [HA.out] at h'; omega)])
              repeat (refine walkT_step (fun K hK => ?_); go_simp; first | (refine hK _ _ ?_; clear hK K))
              refine walkT_nil ?_
              intro w5 hc
              have hb5 := hbW.trans (hc.below.mono hbW.size)
              clear hc f0 f2 f3 f4 o3 o11 o16 o24 o31 o36 gX gB hcW
              go_wp2_with fail
              go_ret
              exact ⟨ret_bool HV2.out, hb5⟩
          · as_aux_lemma =>
            have d2 : decide ((nr : Int) ≤ A.a) = true := decide_eq_true (by omega)
            have HV2 := Lib.hid (show false = v by rw [← HV.out, bOf_no (fun h : MayP nr rk nl ls => by have h' := h.2.1 i hlt; unfold LkOK Vtx at h'; rw [HA.out] at h'; omega)])
            repeat (refine walkT_step (fun K hK => ?_); go_simp; first | (refine hK _ _ ?_; clear hK K))
            refine walkT_nil ?_
            intro w5 hc
            have hb5 := hbW.trans (hc.below.mono hbW.size)
            clear hc f0 f2 f3 f4 o3 o11 o16 o24 o31 o36 gX gB hcW
            go_wp2_with fail
            go_ret
            exact ⟨ret_bool HV2.out, hb5⟩
        · as_aux_lemma =>
          have d1 : decide (A.a < 0) = true := decide_eq_true (by omega)
          have HV2 := Lib.hid (show false = v by rw [← HV.out, bOf_no (fun h : MayP nr rk nl ls => by have h' := h.2.1 i hlt; unfold LkOK Vtx at h'; rw [HA.out] at h'; omega)])
          repeat (refine walkT_step (fun K hK => ?_); go_simp; first | (refine hK _ _ ?_; clear hK K))
          refine walkT_nil ?_
          intro w5 hc
          have hb5 := hbW.trans (hc.below.mono hbW.size)
          clear hc f0 f2 f3 f4 o3 o11 o16 o24 o31 o36 gX gB hcW
          go_wp2_with fail
          go_ret
          exact ⟨ret_bool HV2.out, hb5⟩
      · as_aux_lemma =>
        obtain rfl : i = nl := by omega
        clear hlt hi
        have HS := Lib.hid (show SortOK nr i ls from hok.out)
        have HRI := Lib.hid HS.out.rise
        clear hok
        obtain ⟨wo, rfl⟩ : ∃ wo : World, wo = wr := ⟨_, rfl⟩
        go_wp2_with fail
        go_loopw [5] (fun s5 wr => ∃ j : Nat, s5 = .int .i64 j ∧ j ≤ i ∧ Below w.heap.size w wr ∧ BoxH wr w.heap.size pr nr cr pl i cl ∧ Hid (∀ x, x < j → ¬ BadL nr rk i ls (ls x))) (fun s5 _ => i - (intOf s5).toNat)
        case atStart => exact ⟨0, rfl, by omega, hb, HBX.out, Lib.hid (fun j hj => absurd hj (Nat.not_lt_zero _))⟩
        case round =>
          clear hb HBX b1
          obtain ⟨j, rfl, hj, hb, hbox, hno⟩ := hrel
          have HBX := Lib.hid hbox
          clear hbox
          have b1 : wr.cell? ⟨w.heap.size, 1, none⟩ = some (.slice pl i cl) := cell_of_block HBX.out rfl
          by_cases hlt : j < i
          · obtain ⟨bl, off, rfl, hc⟩ := HH.out.l.below hb (by omega)
            have hci := hc j hlt
            have HCI := Lib.hid hc
            clear hc
            have hokj := HS.out j hlt
            unfold LkOK at hokj
            generalize hA : ls j = A at hci hokj
            have HA := Lib.hid hA
            clear hA
            obtain ⟨va, vb, _, q5, q6, _⟩ := hokj
            obtain ⟨a, b, q, m⟩ := A
            simp only at va vb q5 q6
            obtain ⟨a, rfl⟩ : ∃ k : Nat, a = k := ⟨a.toNat, by have := va.1; omega⟩
            obtain ⟨b, rfl⟩ : ∃ k : Nat, b = k := ⟨b.toNat, by have := vb.1; omega⟩
            have han : a < nr := by have := va.2; omega
            have hbn : b < nr := by have := vb.2; omega
            clear va vb
            obtain ⟨c0, c1, c2, c3⟩ := hci
            simp only at c0 c1 c2 c3
            have hbl := World.block_lt_of_cell? wr _ c0
            simp only at hbl
            have hbx : w.heap.size < wr.heap.size := lt_of_some HBX.out
            have z1 : (j : Int) < (i : Int) := by omega
            have z2 : (0 : Int) ≤ (j : Int) := Int.natCast_nonneg _
            by_cases hm : m = -1
            · as_aux_lemma =>
              subst hm
              have HNO := Lib.hid (fun x (hx : x < j + 1) (hbad : BadL nr rk i ls (ls x)) => show False by
                by_cases e : x = j
                · subst e; rw [HA.out] at hbad; exact hbad.1 rfl
                · exact hno.out x (by omega) hbad)
              go_wp2_with fail
              go_roundw
              case rel => exact ⟨j + 1, by go_num, hlt, hb.alloc hb.size _, heap_alloc_lt HBX.out, HNO⟩
              case measure => simp [intOf]; omega
            · have dm : (m == -1) = false := beq_eq_false_iff_ne.2 hm
              have dm2 : (m != -1) = true := bne_iff_ne.2 hm
              have HM := Lib.hid hm
              clear hm
              go_upto_region 16 with (fail)
              refine draws_hid (by kernel_rfl) (by kernel_rfl) (by kernel_rfl) (fun W hW ops hops => ?_)
              have hbW : Below w.heap.size w W := by rw [hW]; exact hb.alloc hb.size _
              have gX : W.heap[wr.heap.size]? = some (.cells #[.int .i64 a, .int .i64 b, .int .i64 q, .int .i64 m] 40) := by rw [hW]; exact heap_alloc_is rfl
              have gB : W.heap[w.heap.size]? = some (.cells #[.slice pr nr cr, .slice (some ⟨bl, off, none⟩) i cl] 25 (0, 0)) := by rw [hW]; exact heap_alloc_lt HBX.out
              have hcW := Lib.hid (show ∀ j, j < i → LkIn W bl (off + j * 4) (ls j) from fun j hj => by rw [hW]; exact (HCI.out j hj).below (by go_grown))
              clear hW hops c0 c1 c2 c3 HCI HBX b1 dm dm2
              have hlat := Lib.hid (fun (xl : Later W []) => HH.out.l.below (hbW.trans ((xl.h.below (Nat.le_refl _) (fun d hd => by cases hd) : Below W.heap.size W xl.w).mono hbW.size)))
              have f1 : ∀ xl : Later W [], xl.w.cell? ⟨w.heap.size, 1, none⟩ = some (.slice (some ⟨bl, off, none⟩) i cl) := fun xl => cell_of_block (Later.at0 gB xl) rfl
              have f2 : ∀ xl : Later W [], xl.w.cell? ⟨wr.heap.size, 0, none⟩ = some (.int .i64 a) := fun xl => cell_of_block (Later.at0 gX xl) rfl
              have f3 : ∀ xl : Later W [], xl.w.cell? ⟨wr.heap.size, 1, none⟩ = some (.int .i64 b) := fun xl => cell_of_block (Later.at0 gX xl) rfl
              have f5 : ∀ xl : Later W [], xl.w.cell? ⟨wr.heap.size, 3, none⟩ = some (.int .i64 m) := fun xl => cell_of_block (Later.at0 gX xl) rfl
              repeat (refine walkT_step (fun K hK => ?_); go_simp; first | (refine hK _ _ ?_; clear hK K) | (refine ⟨_, fun xl => reflink_low hnl (hlat.out xl), ?_⟩; refine hK _ _ ?_; clear hK K))
              refine walkT_nil ?_
              intro w5 hc
              have hb5 := hbW.trans (hc.below.mono hbW.size)
              replace gX := hc.at0 gX
              replace gB := hc.at0 gB
              have hc5 := Lib.hid (fun j (hj : j < i) => (hcW.out j hj).below hc.below)
              clear hc hcW f1 f2 f3 f5 hlat hbW
              have hXs : wr.heap.size < w5.heap.size := lt_of_some gX
              generalize hla : lnkR ls (a : Int) m i = la
              generalize hlb : lnkR ls m (b : Int) i = lb
              have HLA := Lib.hid hla
              have HLB := Lib.hid hlb
              clear hla hlb
              have HCA := Lib.hid (lnkR_cases ls (a : Int) m i)
              have HCB := Lib.hid (lnkR_cases ls m (b : Int) i)
              go_upto_region 17 with (fail)
              have HBAD := Lib.hid (fun (hn : ¬ JnP nr rk i ls ⟨a, b, q, m⟩) => show false = v by rw [← HV.out, bOf_no (fun h : MayP nr rk i ls => h.2.2 ⟨j, hlt, by rw [HA.out]; exact ⟨HM.out, hn⟩⟩)])
              rcases HCA.out with ⟨e1, hn1⟩ | ⟨k, hk, e1, hk1⟩
              · as_aux_lemma =>
                have HV2 := Lib.hid (HBAD.out (fun h => by obtain ⟨_, _, _, i', k', hi', hk', x1, x2, x3⟩ := h; exact hn1 i' hi' x1))
                obtain rfl : la = -1 := by rw [← HLA.out, e1]
                clear e1 hn1
                refine draws_hid (by kernel_rfl) (by kernel_rfl) (by kernel_rfl) (fun W hW ops hops => ?_)
                subst hW
                have o2 : (ops[2]?).bind (fun x => x.dst) = some 147 := by rw [hops]; rfl
                have o6 : (ops[6]?).bind (fun x => x.dst) = some 151 := by rw [hops]; rfl
                have o21 : (ops[21]?).bind (fun x => x.dst) = some 166 := by rw [hops]; rfl
                have o36 : (ops[36]?).bind (fun x => x.dst) = some 181 := by rw [hops]; rfl
                clear hops
                repeat (refine walkT_step (fun K hK => ?_); go_simp; first | (refine hK _ _ ?_; clear hK K))
                refine walkT_nil ?_
                intro w6 hc
                have hb6 := hb5.trans (hc.below.mono hb5.size)
                clear hc o2 o6 o21 o36 gX gB
                go_wp2_with fail
                go_ret
                exact ⟨ret_bool HV2.out, hb6⟩
              · obtain rfl : la = (k : Int) := by rw [← HLA.out, e1]
                clear e1
                have HK1 := Lib.hid hk1
                clear hk1
                rcases HCB.out with ⟨e2, hn2⟩ | ⟨k2, hk2, e2, hk3⟩
                · as_aux_lemma =>
                    have HV2 := Lib.hid (HBAD.out (fun h => by obtain ⟨_, _, _, i', k', hi', hk', x1, x2, x3⟩ := h; exact hn2 k' hk' x2))
                    obtain rfl : lb = -1 := by rw [← HLB.out, e2]
                    clear e2 hn2
                    refine draws_hid (by kernel_rfl) (by kernel_rfl) (by kernel_rfl) (fun W hW ops hops => ?_)
                    subst hW
                    have o2 : (ops[2]?).bind (fun x => x.dst) = some 147 := by rw [hops]; rfl
                    have o6 : (ops[6]?).bind (fun x => x.dst) = some 151 := by rw [hops]; rfl
                    have o21 : (ops[21]?).bind (fun x => x.dst) = some 166 := by rw [hops]; rfl
                    have o36 : (ops[36]?).bind (fun x => x.dst) = some 181 := by rw [hops]; rfl
                    clear hops
                    repeat (refine walkT_step (fun K hK => ?_); go_simp; first | (refine hK _ _ ?_; clear hK K))
                    refine walkT_nil ?_
                    intro w6 hc
                    have hb6 := hb5.trans (hc.below.mono hb5.size)
                    clear hc o2 o6 o21 o36 gX gB
                    go_wp2_with fail
                    go_ret
                    exact ⟨ret_bool HV2.out, hb6⟩
                · obtain rfl : lb = (k2 : Int) := by rw [← HLB.out, e2]
                  clear e2
                  have HK2 := Lib.hid hk3
                  clear hk3
                  have vm : Vtx nr m := by have h1 := (HS.out k hk).2.1; rw [HK1.out.2] at h1; exact h1
                  obtain ⟨m, rfl⟩ : ∃ k : Nat, m = k := ⟨m.toNat, by have := vm.1; omega⟩
                  have hmn : m < nr := by have := vm.2; omega
                  have VM := Lib.hid vm
                  clear vm
                  obtain ⟨br, ofr, rfl, hcr⟩ := HH.out.r.below hb5 (by omega)
                  have r0 := hcr a han
                  have r1 := hcr b hbn
                  have r2 := hcr m hmn
                  clear hcr
                  generalize hra : rk a = A at r0
                  generalize hrb : rk b = B at r1
                  generalize hrm : rk m = M at r2
                  have HRA := Lib.hid hra
                  have HRB := Lib.hid hrb
                  have HRM := Lib.hid hrm
                  clear hra hrb hrm
                  have w1 := HS.out k hk
                  have w2 := HS.out k2 hk2
                  unfold LkOK at w1 w2
                  obtain ⟨_, _, _, wi0, wi1, _⟩ := w1
                  obtain ⟨_, _, _, wk0, wk1, _⟩ := w2
                  have y1 := (hc5.out k hk).2.2.1
                  have y2 := (hc5.out k2 hk2).2.2.1
                  clear hc5
                  generalize hw1 : (ls k).w = W1 at wi0 wi1 y1
                  generalize hw2 : (ls k2).w = W2 at wk0 wk1 y2
                  have HW1 := Lib.hid hw1
                  have HW2 := Lib.hid hw2
                  clear hw1 hw2
                  have z3 : (a : Int) < (nr : Int) := by omega
                  have z4 : (b : Int) < (nr : Int) := by omega
                  have z5 : (m : Int) < (nr : Int) := by omega
                  have z6 : (k : Int) < (i : Int) := by omega
                  have z7 : (k2 : Int) < (i : Int) := by omega
                  have z8 : (0 : Int) ≤ (k : Int) := Int.natCast_nonneg _
                  have z9 : (0 : Int) ≤ (k2 : Int) := Int.natCast_nonneg _
                  have hwp : IntKind.i64.wrap (W1 + W2) = W1 + W2 := IntWalk.i64_in _ (by omega)
                  refine draws_hid (by kernel_rfl) (by kernel_rfl) (by kernel_rfl) (fun W hW ops hops => ?_)
                  subst hW
                  have o2 : (ops[2]?).bind (fun x => x.dst) = some 147 := by rw [hops]; rfl
                  have o6 : (ops[6]?).bind (fun x => x.dst) = some 151 := by rw [hops]; rfl
                  have o21 : (ops[21]?).bind (fun x => x.dst) = some 166 := by rw [hops]; rfl
                  have o36 : (ops[36]?).bind (fun x => x.dst) = some 181 := by rw [hops]; rfl
                  clear hops
                  have f0 : ∀ xl : Later W [], xl.w.cell? ⟨w.heap.size, 0, none⟩ = some (.slice (some ⟨br, ofr, none⟩) nr cr) := fun xl => cell_of_block (Later.at0 gB xl) rfl
                  have f1 : ∀ xl : Later W [], xl.w.cell? ⟨w.heap.size, 1, none⟩ = some (.slice (some ⟨bl, off, none⟩) i cl) := fun xl => cell_of_block (Later.at0 gB xl) rfl
                  have f2 : ∀ xl : Later W [], xl.w.cell? ⟨wr.heap.size, 0, none⟩ = some (.int .i64 a) := fun xl => cell_of_block (Later.at0 gX xl) rfl
                  have f3 : ∀ xl : Later W [], xl.w.cell? ⟨wr.heap.size, 1, none⟩ = some (.int .i64 b) := fun xl => cell_of_block (Later.at0 gX xl) rfl
                  have f4 : ∀ xl : Later W [], xl.w.cell? ⟨wr.heap.size, 2, none⟩ = some (.int .i64 q) := fun xl => cell_of_block (Later.at0 gX xl) rfl
                  have f5 : ∀ xl : Later W [], xl.w.cell? ⟨wr.heap.size, 3, none⟩ = some (.int .i64 m) := fun xl => cell_of_block (Later.at0 gX xl) rfl
                  have g0 : ∀ xl : Later W [], xl.w.cell? ⟨br, ofr + a, none⟩ = some (.int .i64 A) := cellLater r0
                  have g1 : ∀ xl : Later W [], xl.w.cell? ⟨br, ofr + b, none⟩ = some (.int .i64 B) := cellLater r1
                  have g2 : ∀ xl : Later W [], xl.w.cell? ⟨br, ofr + m, none⟩ = some (.int .i64 M) := cellLater r2
                  have g3 : ∀ xl : Later W [], xl.w.cell? ⟨bl, off + k * 4 + 2, none⟩ = some (.int .i64 W1) := cellLater y1
                  have g4 : ∀ xl : Later W [], xl.w.cell? ⟨bl, off + k2 * 4 + 2, none⟩ = some (.int .i64 W2) := cellLater y2
                  clear r0 r1 r2 y1 y2
                  by_cases h1 : M < A
                  · by_cases h2 : M < B
                    · by_cases h3 : W1 + W2 = q
                      · as_aux_lemma =>
                        have HNO := Lib.hid (fun x (hx : x < j + 1) (hbad : BadL nr rk i ls (ls x)) => show False by
                          by_cases e : x = j
                          · subst e
                            rw [HA.out] at hbad
                            exact hbad.2 ⟨VM.out, by simp only [Int.toNat_natCast]; rw [HRM.out, HRA.out]; exact h1, by simp only [Int.toNat_natCast]; rw [HRM.out, HRB.out]; exact h2, k, k2, hk, hk2, HK1.out, HK2.out, by rw [HW1.out, HW2.out]; exact h3⟩
                          · exact hno.out x (by omega) hbad)
                        have e1 : decide (A ≤ M) = false := decide_eq_false (by omega)
                        have e2 : decide (B ≤ M) = false := decide_eq_false (by omega)
                        have e3 : (W1 + W2 == q) = true := beq_iff_eq.2 h3
                        have e4 : (W1 + W2 != q) = false := by unfold bne; rw [e3]; rfl
                        clear h1 h2 h3
                        repeat (refine walkT_step (fun K hK => ?_); go_simp; first | (refine hK _ _ ?_; clear hK K))
                        refine walkT_nil ?_
                        intro w6 hc
                        have hb6 := hb5.trans (hc.below.mono hb5.size)
                        have hBX6 := Lib.hid (hc.at0 gB)
                        clear hc o2 o6 o21 o36 gX f0 f1 f2 f3 f4 f5 g0 g1 g2 g3 g4 hwp gB e1 e2 e3 e4
                        go_wp2_with fail
                        go_roundw
                        case rel => exact ⟨j + 1, by go_num, hlt, hb6, hBX6.out, HNO⟩
                        case measure => simp [intOf]; omega
                      · as_aux_lemma =>
                        have HV2 := Lib.hid (HBAD.out (fun h => by obtain ⟨_, x0, x1, i', k', hi', hk', x2, x3, x4⟩ := h; simp only [Int.toNat_natCast] at x0 x1; rw [HRM.out, HRA.out] at x0; rw [HRM.out, HRB.out] at x1; rw [HRI.out.one hi' hk x2 HK1.out, HRI.out.one hk' hk2 x3 HK2.out, HW1.out, HW2.out] at x4; exact h3 x4))
                        have e1 : decide (A ≤ M) = false := decide_eq_false (by omega)
                        have e2 : decide (B ≤ M) = false := decide_eq_false (by omega)
                        have e3 : (W1 + W2 == q) = false := beq_eq_false_iff_ne.2 h3
                        have e4 : (W1 + W2 != q) = true := bne_iff_ne.2 h3
                        clear h1 h2 h3
                        repeat (refine walkT_step (fun K hK => ?_); go_simp; first | (refine hK _ _ ?_; clear hK K))
                        refine walkT_nil ?_
                        intro w6 hc
                        have hb6 := hb5.trans (hc.below.mono hb5.size)
                        clear hc o2 o6 o21 o36 gX f0 f1 f2 f3 f4 f5 g0 g1 g2 g3 g4 hwp gB
                        go_wp2_with fail
                        go_ret
                        exact ⟨ret_bool HV2.out, hb6⟩
                    · as_aux_lemma =>
                      have HV2 := Lib.hid (HBAD.out (fun h => by obtain ⟨_, x0, x1, i', k', hi', hk', x2, x3, x4⟩ := h; simp only [Int.toNat_natCast] at x0 x1; rw [HRM.out, HRA.out] at x0; rw [HRM.out, HRB.out] at x1; exact h2 x1))
                      have e1 : decide (A ≤ M) = false := decide_eq_false (by omega)
                      have e2 : decide (B ≤ M) = true := decide_eq_true (by omega)
                      clear h1 h2
                      repeat (refine walkT_step (fun K hK => ?_); go_simp; first | (refine hK _ _ ?_; clear hK K))
                      refine walkT_nil ?_
                      intro w6 hc
                      have hb6 := hb5.trans (hc.below.mono hb5.size)
                      clear hc o2 o6 o21 o36 gX f0 f1 f2 f3 f4 f5 g0 g1 g2 g3 g4 hwp gB
                      go_wp2_with fail
                      go_ret
                      exact ⟨ret_bool HV2.out, hb6⟩
                  · as_aux_lemma =>
                    have HV2 := Lib.hid (HBAD.out (fun h => by obtain ⟨_, x0, x1, i', k', hi', hk', x2, x3, x4⟩ := h; simp only [Int.toNat_natCast] at x0 x1; rw [HRM.out, HRA.out] at x0; rw [HRM.out, HRB.out] at x1; exact h1 x0))
                    have e1 : decide (A ≤ M) = true := decide_eq_true (by omega)
                    clear h1
                    repeat (refine walkT_step (fun K hK => ?_); go_simp; first | (refine hK _ _ ?_; clear hK K))
                    refine walkT_nil ?_
                    intro w6 hc
                    have hb6 := hb5.trans (hc.below.mono hb5.size)
                    clear hc o2 o6 o21 o36 gX f0 f1 f2 f3 f4 f5 g0 g1 g2 g3 g4 hwp gB
                    go_wp2_with fail
                    go_ret
                    exact ⟨ret_bool HV2.out, hb6⟩
          · have HV2 := Lib.hid (show true = v by rw [← HV.out, bOf_yes (show MayP nr rk i ls from ⟨of_bOf HR.out, HS.out, fun ⟨x, hx, hbad⟩ => hno.out x (by omega) hbad⟩)])
            go_wp2_with fail
            go_ret
            exact ⟨ret_bool HV2.out, hb⟩
end Go.Proofs.Ytgmlaimlcccmhaa
