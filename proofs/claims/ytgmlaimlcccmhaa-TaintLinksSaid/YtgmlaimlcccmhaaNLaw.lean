/-
  WALKS OF THE LAW OF TAINTED LINKS. CONDITIONS: stated.
-/
import Derived.Test.YtgmlaimlcccmhaaNAwake
import Derived.Test.YtgmlaimlcccmhaaNTainted
import Derived.Test.YtgmlaimlcccmhaaNRefMay
namespace Go.Proofs.Ytgmlaimlcccmhaa
open Go.RowKit Go.Proofs.Ytgmlaimlcccmhaa.Tame
set_option maxHeartbeats 400000

theorem small_val {pr : Option Addr} {nr cr : Nat} {pl : Option Addr} {nl cl : Nat} {w : World} {v : Bool} (hn : nr ≤ 9223372036854775807) (hl : nl ≤ 9223372036854775807) (hv : bOf (nr ≤ 40 ∧ nl ≤ 400) = v) :
    Calls Try.prog 4 #[HV pr nr cr pl nl cl] w fun e w' => e = .returned (.bool v) ∧ Below w.heap.size w w' := by
  have := small_any pr nr cr pl nl cl w hn hl
  rwa [hv] at this
theorem refmay_val {pr : Option Addr} {nr cr : Nat} {pl : Option Addr} {nl cl : Nat} {rk : Fn} {ls : Ls} {w : World} {v : Bool} (hnr : nr ≤ 40) (hnl : nl ≤ 400) (hh : HAt w pr nr rk pl nl ls) (hv : bOf (MayP nr rk nl ls) = v) :
    Calls Try.prog 9 #[HV pr nr cr pl nl cl] w fun e w' => e = .returned (.bool v) ∧ Below w.heap.size w w' := by
  have := refmay_any pr nr cr pl nl cl rk ls w hnr hnl hh
  rwa [hv] at this
theorem box_low {w : World} {o : Obj} : Below w.heap.size w (w.alloc o) := (Below.refl _ _).alloc (Nat.le_refl _) _

set_option maxRecDepth 100000 in
theorem taint_big (pr : Option Addr) (nr cr : Nat) (pl : Option Addr) (nl cl : Nat) (pc : Option Addr) (nc cc : Nat) (pw : Option Addr) (nw cw : Nat) (w : World) (h1 : nr ≤ 9223372036854775807) (h2 : nl ≤ 9223372036854775807) (h3 : nc ≤ 9223372036854775807) (h4 : nw ≤ 9223372036854775807) (hbig : ¬ ((nr ≤ 40 ∧ nl ≤ 400) ∧ nr ≤ 13 ∧ nc ≤ 40 ∧ nw ≤ 20)) :
    Calls Try.prog 3 #[HV pr nr cr pl nl cl, .slice pc nc cc, .slice pw nw cw] w fun e w' => e = .returned (.bool true) ∧ Below w.heap.size w w' := by
  cases hv : bOf (nr ≤ 40 ∧ nl ≤ 400)
  · clear hbig
    have HV := Lib.hid hv
    clear hv
    go_enter Try.func3, Try.ntmps3
    go_wp2_with fail
    refine (small_val h1 h2 HV.out).mono ?_
    rintro e w1 ⟨rfl, hb1⟩
    have gB : BoxH w1 w.heap.size pr nr cr pl nl cl := BoxH.below (heap_alloc_is rfl) hb1
    have hw1 : Below w.heap.size w w1 := box_low.trans (hb1.mono (by simp))
    have c0 : w1.cell? ⟨w.heap.size, 0, none⟩ = some (.slice pr nr cr) := cell_of_block gB rfl
    clear hb1 gB
    go_wp2_with fail
    refine (awake_any _).mono ?_
    rintro e w2 ⟨rfl, hb2⟩
    go_wp2_with fail
    go_ret
    exact ⟨rfl, hw1.trans (hb2.mono hw1.size)⟩
  · have hs := of_bOf hv
    by_cases q1 : nr ≤ 13
    · by_cases q2 : nc ≤ 40
      · have q3 : 20 < nw := by apply Classical.byContradiction; intro hn; exact hbig ⟨hs, q1, q2, by omega⟩
        clear hbig
        have HV := Lib.hid hv
        clear hv
        have d1 : decide ((13 : Int) < (nr : Int)) = false := decide_eq_false (by omega)
        have d2 : decide ((40 : Int) < (nc : Int)) = false := decide_eq_false (by omega)
        have d3 : decide ((20 : Int) < (nw : Int)) = true := decide_eq_true (by omega)
        go_enter Try.func3, Try.ntmps3
        go_wp2_with fail
        refine (small_val h1 h2 HV.out).mono ?_
        rintro e w1 ⟨rfl, hb1⟩
        have gB : BoxH w1 w.heap.size pr nr cr pl nl cl := BoxH.below (heap_alloc_is rfl) hb1
        have hw1 : Below w.heap.size w w1 := box_low.trans (hb1.mono (by simp))
        have c0 : w1.cell? ⟨w.heap.size, 0, none⟩ = some (.slice pr nr cr) := cell_of_block gB rfl
        clear hb1 gB
        go_wp2_with fail
        refine (awake_any _).mono ?_
        rintro e w2 ⟨rfl, hb2⟩
        go_wp2_with fail
        go_ret
        exact ⟨rfl, hw1.trans (hb2.mono hw1.size)⟩
      · clear hbig
        have HV := Lib.hid hv
        clear hv
        have d1 : decide ((13 : Int) < (nr : Int)) = false := decide_eq_false (by omega)
        have d2 : decide ((40 : Int) < (nc : Int)) = true := decide_eq_true (by omega)
        go_enter Try.func3, Try.ntmps3
        go_wp2_with fail
        refine (small_val h1 h2 HV.out).mono ?_
        rintro e w1 ⟨rfl, hb1⟩
        have gB : BoxH w1 w.heap.size pr nr cr pl nl cl := BoxH.below (heap_alloc_is rfl) hb1
        have hw1 : Below w.heap.size w w1 := box_low.trans (hb1.mono (by simp))
        have c0 : w1.cell? ⟨w.heap.size, 0, none⟩ = some (.slice pr nr cr) := cell_of_block gB rfl
        clear hb1 gB
        go_wp2_with fail
        refine (awake_any _).mono ?_
        rintro e w2 ⟨rfl, hb2⟩
        go_wp2_with fail
        go_ret
        exact ⟨rfl, hw1.trans (hb2.mono hw1.size)⟩
    · clear hbig
      have HV := Lib.hid hv
      clear hv
      have d1 : decide ((13 : Int) < (nr : Int)) = true := decide_eq_true (by omega)
      go_enter Try.func3, Try.ntmps3
      go_wp2_with fail
      refine (small_val h1 h2 HV.out).mono ?_
      rintro e w1 ⟨rfl, hb1⟩
      have gB : BoxH w1 w.heap.size pr nr cr pl nl cl := BoxH.below (heap_alloc_is rfl) hb1
      have hw1 : Below w.heap.size w w1 := box_low.trans (hb1.mono (by simp))
      have c0 : w1.cell? ⟨w.heap.size, 0, none⟩ = some (.slice pr nr cr) := cell_of_block gB rfl
      clear hb1 gB
      go_wp2_with fail
      refine (awake_any _).mono ?_
      rintro e w2 ⟨rfl, hb2⟩
      go_wp2_with fail
      go_ret
      exact ⟨rfl, hw1.trans (hb2.mono hw1.size)⟩

set_option maxRecDepth 100000 in
set_option maxHeartbeats 1000000 in
theorem taint_no (pr : Option Addr) (nr cr : Nat) (pl : Option Addr) (nl cl : Nat) (pc : Option Addr) (nc cc : Nat) (pw : Option Addr) (nw cw : Nat) (rk : Fn) (ls : Ls) (w : World) (h1 : nr ≤ 13) (h2 : nl ≤ 400) (h3 : nc ≤ 40) (h4 : nw ≤ 20) (hh : HAt w pr nr rk pl nl ls) (hno : ¬ (MayP nr rk nl ls ∧ nc = nr)) :
    Calls Try.prog 3 #[HV pr nr cr pl nl cl, .slice pc nc cc, .slice pw nw cw] w fun e w' => e = .returned (.bool true) ∧ Below w.heap.size w w' := by
  have HV := Lib.hid (bOf_yes (show nr ≤ 40 ∧ nl ≤ 400 from ⟨by omega, h2⟩))
  have d1 : decide ((13 : Int) < (nr : Int)) = false := decide_eq_false (by omega)
  have d2 : decide ((40 : Int) < (nc : Int)) = false := decide_eq_false (by omega)
  have d3 : decide ((20 : Int) < (nw : Int)) = false := decide_eq_false (by omega)
  have HH := Lib.hid hh
  have HNO := Lib.hid hno
  clear hh hno
  go_enter Try.func3, Try.ntmps3
  go_wp2_with fail
  refine (small_val (by omega) (by omega) HV.out).mono ?_
  rintro e w1 ⟨rfl, hb1⟩
  have GB := Lib.hid (show BoxH w1 w.heap.size pr nr cr pl nl cl from BoxH.below (heap_alloc_is rfl) hb1)
  have hw : Below w.heap.size w w1 := box_low.trans (hb1.mono (by simp))
  clear hb1
  have c0 : w1.cell? ⟨w.heap.size, 0, none⟩ = some (.slice pr nr cr) := cell_of_block GB.out rfl
  have c1 : w1.cell? ⟨w.heap.size, 1, none⟩ = some (.slice pl nl cl) := cell_of_block GB.out rfl
  go_wp2_with fail
  refine (links_no _ _ _ _ _ _ _ _ _ rk ls _ (by omega) h2 (HH.out.below hw) HNO.out).mono ?_
  rintro e w2 ⟨rfl, hb⟩
  replace GB := Lib.hid (GB.out.below hb)
  replace hw := hw.trans (hb.mono hw.size)
  clear hb c0 c1
  have c0 : w2.cell? ⟨w.heap.size, 0, none⟩ = some (.slice pr nr cr) := cell_of_block GB.out rfl
  have c1 : w2.cell? ⟨w.heap.size, 1, none⟩ = some (.slice pl nl cl) := cell_of_block GB.out rfl
  go_wp2_with fail
  refine (count_no _ _ _ _ _ _ _ _ _ rk ls _ (by omega) h2 (HH.out.below hw) HNO.out).mono ?_
  rintro e w3 ⟨rfl, hb⟩
  replace GB := Lib.hid (GB.out.below hb)
  replace hw := hw.trans (hb.mono hw.size)
  clear hb c0 c1
  have c0 : w3.cell? ⟨w.heap.size, 0, none⟩ = some (.slice pr nr cr) := cell_of_block GB.out rfl
  have c1 : w3.cell? ⟨w.heap.size, 1, none⟩ = some (.slice pl nl cl) := cell_of_block GB.out rfl
  go_wp2_with fail
  refine (clean_no _ _ _ _ _ _ _ _ _ _ _ _ rk ls _ (by omega) h2 (HH.out.below hw) HNO.out).mono ?_
  rintro e w4 ⟨rfl, hb⟩
  replace GB := Lib.hid (GB.out.below hb)
  replace hw := hw.trans (hb.mono hw.size)
  clear hb c0 c1
  have c0 : w4.cell? ⟨w.heap.size, 0, none⟩ = some (.slice pr nr cr) := cell_of_block GB.out rfl
  have c1 : w4.cell? ⟨w.heap.size, 1, none⟩ = some (.slice pl nl cl) := cell_of_block GB.out rfl
  cases hm : bOf (MayP nr rk nl ls)
  · have HM := Lib.hid hm
    clear hm
    go_wp2_with fail
    refine (refmay_val (by omega) h2 (HH.out.below hw) HM.out).mono ?_
    rintro e w5 ⟨rfl, hb⟩
    replace GB := Lib.hid (GB.out.below hb)
    replace hw := hw.trans (hb.mono hw.size)
    clear hb c0 c1
    have c0 : w5.cell? ⟨w.heap.size, 0, none⟩ = some (.slice pr nr cr) := cell_of_block GB.out rfl
    have c1 : w5.cell? ⟨w.heap.size, 1, none⟩ = some (.slice pl nl cl) := cell_of_block GB.out rfl
    go_wp2_with fail
    refine (awake_any _).mono ?_
    rintro e w6 ⟨rfl, hb6⟩
    go_wp2_with fail
    go_ret
    exact ⟨rfl, hw.trans (hb6.mono hw.size)⟩
  · have HM := Lib.hid hm
    have hne : ¬ nc = nr := fun e => HNO.out ⟨of_bOf hm, e⟩
    have e1 : ((nc : Int) == (nr : Int)) = false := beq_eq_false_iff_ne.2 (by omega)
    have e2 : ((nc : Int) != (nr : Int)) = true := bne_iff_ne.2 (by omega)
    clear hm hne
    go_wp2_with fail
    refine (refmay_val (by omega) h2 (HH.out.below hw) HM.out).mono ?_
    rintro e w5 ⟨rfl, hb⟩
    replace GB := Lib.hid (GB.out.below hb)
    replace hw := hw.trans (hb.mono hw.size)
    clear hb c0 c1
    have c0 : w5.cell? ⟨w.heap.size, 0, none⟩ = some (.slice pr nr cr) := cell_of_block GB.out rfl
    have c1 : w5.cell? ⟨w.heap.size, 1, none⟩ = some (.slice pl nl cl) := cell_of_block GB.out rfl
    go_wp2_with fail
    refine (awake_any _).mono ?_
    rintro e w6 ⟨rfl, hb6⟩
    go_wp2_with fail
    go_ret
    exact ⟨rfl, hw.trans (hb6.mono hw.size)⟩

def WayB (nr nl : Nat) (ls : Ls) (cf T : Fl) (nw : Nat) (lf : Fn) (i : Nat) : Prop := 0 < nw ∧ ∀ j, j < i → ClnOK nr nl ls cf T lf j
theorem bOf_and {P Q : Prop} (h : Q) : bOf (P ∧ Q) = bOf P := bOf_iff ⟨fun x => x.1, fun x => ⟨x, h⟩⟩
theorem WayB.succ {nr nl : Nat} {ls : Ls} {cf T : Fl} {nw : Nat} {lf : Fn} {i : Nat} (h : bOf (WayB nr nl ls cf T nw lf i) = true) (v : Bool) (hv : v = true ↔ ClnOK nr nl ls cf T lf i) : v = bOf (WayB nr nl ls cf T nw lf (i + 1)) := by
  refine (bOf_eq ⟨fun e => ⟨(of_bOf h).1, fun j hj => ?_⟩, fun hw => hv.2 (hw.2 i (by omega))⟩).symm
  by_cases e2 : j = i
  · subst e2; exact hv.1 e
  · exact (of_bOf h).2 j (by omega)
theorem bne_same (v : Bool) : (v != v) = false := by cases v <;> rfl

set_option maxRecDepth 100000 in
set_option maxHeartbeats 10000000 in
theorem taint_yes (pr : Option Addr) (nr cr : Nat) (pl : Option Addr) (nl cl : Nat) (pc : Option Addr) (cc : Nat) (pw : Option Addr) (nw cw : Nat) (rk : Fn) (ls : Ls) (cf : Fl) (lf : Fn) (w : World) (h1 : nr ≤ 13) (h2 : nl ≤ 400) (h4 : nw ≤ 20) (hh : HAt w pr nr rk pl nl ls) (hcl : BoolsAt w pc nr cf) (hwy : IntsAt w pw nw lf) (hM : MayP nr rk nl ls) :
    Calls Try.prog 3 #[HV pr nr cr pl nl cl, .slice pc nr cc, .slice pw nw cw] w fun e w' => e = .returned (.bool true) ∧ Below w.heap.size w w' := by
  have HV := Lib.hid (bOf_yes (show nr ≤ 40 ∧ nl ≤ 400 from ⟨by omega, h2⟩))
  have d1 : decide ((13 : Int) < (nr : Int)) = false := decide_eq_false (by omega)
  have d2 : decide ((40 : Int) < (nr : Int)) = false := decide_eq_false (by omega)
  have d3 : decide ((20 : Int) < (nw : Int)) = false := decide_eq_false (by omega)
  have HH := Lib.hid hh
  have HC := Lib.hid hcl
  have HWY := Lib.hid hwy
  have HM := Lib.hid hM
  have HMB := Lib.hid (bOf_yes hM)
  clear hh hcl hwy hM
  have HLN := Lib.hid (fun (W : World) (h : Below w.heap.size w W) => links_yes pr nr cr pl nl cl pc cc rk ls cf W (by omega) h2 (HH.out.below h) (HC.out.below h) HM.out)
  have HCN := Lib.hid (fun (W : World) (h : Below w.heap.size w W) => count_yes pr nr cr pl nl cl pc cc rk ls cf W (by omega) h2 (HH.out.below h) (HC.out.below h) HM.out)
  have HCL := Lib.hid (fun (W : World) (h : Below w.heap.size w W) => clean_yes pr nr cr pl nl cl pc cc pw nw cw rk ls cf lf W (by omega) h2 (by omega) (HH.out.below h) (HC.out.below h) (HWY.out.below h) HM.out)
  have HTN := Lib.hid (fun (W : World) (i : Nat) (hi : i < nl) (h : Below w.heap.size w W) => tainted_any pr nr cr pl nl cl pc cc i rk ls cf W h1 h2 hi (HH.out.l.below h) (HC.out.below h) HM.out)
  generalize tnF cf ls nl nr = T at HLN HCN HCL HTN
  generalize hnum : numT T nl = N at HCN
  have HNUM := Lib.hid hnum
  clear hnum
  generalize hcp : bOf (ClnP nr nl ls cf T nw lf) = cp at HCL
  have HCP := Lib.hid hcp
  clear hcp
  go_enter Try.func3, Try.ntmps3
  go_wp2_with fail
  refine (small_val (by omega) (by omega) HV.out).mono ?_
  rintro e w1 ⟨rfl, hb1⟩
  have GB := Lib.hid (show BoxH w1 w.heap.size pr nr cr pl nl cl from BoxH.below (heap_alloc_is rfl) hb1)
  have hw : Below w.heap.size w w1 := box_low.trans (hb1.mono (by simp))
  clear hb1
  have c0 : w1.cell? ⟨w.heap.size, 0, none⟩ = some (.slice pr nr cr) := cell_of_block GB.out rfl
  have c1 : w1.cell? ⟨w.heap.size, 1, none⟩ = some (.slice pl nl cl) := cell_of_block GB.out rfl
  go_wp2_with fail
  refine (HLN.out _ hw).mono ?_
  rintro e w2 ⟨u, rfl, hu, hfl, hb⟩
  have HFL := Lib.hid hfl
  clear hfl hu
  replace GB := Lib.hid (GB.out.below hb)
  replace hw := hw.trans (hb.mono hw.size)
  clear hb c0 c1
  have c0 : w2.cell? ⟨w.heap.size, 0, none⟩ = some (.slice pr nr cr) := cell_of_block GB.out rfl
  have c1 : w2.cell? ⟨w.heap.size, 1, none⟩ = some (.slice pl nl cl) := cell_of_block GB.out rfl
  go_wp2_with fail
  refine (HCN.out _ hw).mono ?_
  rintro e w3 ⟨rfl, hb⟩
  replace HFL := Lib.hid (HFL.out.below hb)
  replace GB := Lib.hid (GB.out.below hb)
  replace hw := hw.trans (hb.mono hw.size)
  clear hb c0 c1
  have c0 : w3.cell? ⟨w.heap.size, 0, none⟩ = some (.slice pr nr cr) := cell_of_block GB.out rfl
  have c1 : w3.cell? ⟨w.heap.size, 1, none⟩ = some (.slice pl nl cl) := cell_of_block GB.out rfl
  go_wp2_with fail
  refine (HCL.out _ hw).mono ?_
  rintro e w4 ⟨rfl, hb⟩
  replace HFL := Lib.hid (HFL.out.below hb)
  replace GB := Lib.hid (GB.out.below hb)
  replace hw := hw.trans (hb.mono hw.size)
  clear hb c0 c1
  have c0 : w4.cell? ⟨w.heap.size, 0, none⟩ = some (.slice pr nr cr) := cell_of_block GB.out rfl
  have c1 : w4.cell? ⟨w.heap.size, 1, none⟩ = some (.slice pl nl cl) := cell_of_block GB.out rfl
  go_wp2_with fail
  refine (refmay_val (by omega) h2 (HH.out.below hw) HMB.out).mono ?_
  rintro e w5 ⟨rfl, hb⟩
  replace HFL := Lib.hid (HFL.out.below hb)
  replace GB := Lib.hid (GB.out.below hb)
  replace hw := hw.trans (hb.mono hw.size)
  clear hb c0 c1
  have c0 : w5.cell? ⟨w.heap.size, 0, none⟩ = some (.slice pr nr cr) := cell_of_block GB.out rfl
  have c1 : w5.cell? ⟨w.heap.size, 1, none⟩ = some (.slice pl nl cl) := cell_of_block GB.out rfl
  have GB5 := GB
  have hw5 := hw
  have HFL5 := HFL
  have hus : u < w5.heap.size := HFL.out.lt
  have hbs : w.heap.size < w5.heap.size := lt_of_some GB.out
  clear HLN HCN HCL HMB GB hw HFL
  go_wp2_with fail
  clear c0 c1 d1 d2 d3
  go_loopw [13, 14] (fun s13 s14 wr => ∃ (i k : Nat), s13 = .int .i64 k ∧ s14 = .int .i64 i ∧ i ≤ nl ∧ k ≤ nl ∧ Hid (numT T i = k) ∧ Below w5.heap.size w5 wr) (fun _ s14 _ => nl - (intOf s14).toNat)
  case atStart => exact ⟨0, 0, rfl, rfl, by omega, by omega, Lib.hid rfl, Below.refl _ _⟩
  case round =>
    obtain ⟨i, k, rfl, rfl, hi, hk, hn, hb⟩ := hrel
    have HFL := Lib.hid (HFL5.out.below hb)
    have GB := Lib.hid (GB5.out.below hb)
    have hw := hw5.trans (hb.mono hw5.size)
    by_cases hlt : i < nl
    · as_aux_lemma =>
        have hle := numT_le T (i + 1)
        have hstep : numT T (i + 1) = k + (if T i then 1 else 0) := by rw [← hn.out]; rfl
        have HT := Lib.hid (fun (W : World) (h : Below w.heap.size w W) => HTN.out W i hlt h)
        generalize hti : T i = v at hstep HT
        have g0 := GB.out
        have f9 : ∀ xl : Later wr [], xl.w.cell? ⟨u, i, none⟩ = some (.bool v) := cellLater (by rw [← hti]; exact HFL.out.cell hlt)
        have HTI := Lib.hid hti
        clear hti
        have hlat := Lib.hid (fun (xl : Later wr []) => HT.out xl.w (hw.trans ((xl.h.below (Nat.le_refl _) (fun d hd => by cases hd) : Below wr.heap.size wr xl.w).mono hw.size)))
        have HSTEP := Lib.hid hstep
        have HLE := Lib.hid hle
        clear hstep hle
        have z1 : (i : Int) < (nl : Int) := by omega
        have z2 : (0 : Int) ≤ (i : Int) := Int.natCast_nonneg _
        have hvv := bne_same v
        go_upto_region 14 with (fail)
        refine draws_hid (by kernel_rfl) (by kernel_rfl) (by kernel_rfl) (fun W hW ops hops => ?_)
        subst hW
        clear hops
        have f0 : ∀ xl : Later W [], xl.w.cell? ⟨w.heap.size, 0, none⟩ = some (.slice pr nr cr) := fun xl => cell_of_block (Later.at0 g0 xl) rfl
        have f1 : ∀ xl : Later W [], xl.w.cell? ⟨w.heap.size, 1, none⟩ = some (.slice pl nl cl) := fun xl => cell_of_block (Later.at0 g0 xl) rfl
        repeat (refine walkT_step (fun K hK => ?_); go_simp; first | (refine hK _ _ ?_; clear hK K) | (refine ⟨_, hlat.out, ?_⟩; refine hK _ _ ?_; clear hK K))
        refine walkT_nil ?_
        intro w6 hc
        have hb6 := hb.trans (hc.below.mono hb.size)
        have HFL6 := Lib.hid (HFL.out.below hc.below)
        clear hc f0 f1 f9 g0 hlat
        have c9 : w6.cell? ⟨u, i, none⟩ = some (.bool v) := by rw [← HTI.out]; exact HFL6.out.cell hlt
        cases v with
        | true =>
          have HN := Lib.hid (show numT T (i + 1) = k + 1 by rw [HSTEP.out]; simp)
          have hk1 : k + 1 ≤ nl := by have := HLE.out; rw [HN.out] at this; omega
          go_wp2_with fail
          go_roundw
          case rel => exact ⟨i + 1, k + 1, by go_num, by go_num, hlt, hk1, HN, hb6⟩
          case measure => simp [intOf]; omega
        | false =>
          have HN := Lib.hid (show numT T (i + 1) = k by rw [HSTEP.out]; simp)
          go_wp2_with fail
          go_roundw
          case rel => exact ⟨i + 1, k, rfl, by go_num, hlt, hk, HN, hb6⟩
          case measure => simp [intOf]; omega
    · obtain rfl : i = nl := by omega
      obtain rfl : k = N := by rw [← hn.out, HNUM.out]
      clear hn hlt hi
      obtain ⟨wo, rfl⟩ : ∃ wo : World, wo = wr := ⟨_, rfl⟩
      obtain ⟨v0, hv0⟩ : ∃ v0 : Bool, decide (0 < nw) = v0 := ⟨_, rfl⟩
      have HV0 := Lib.hid (show v0 = bOf (WayB nr i ls cf T nw lf 0) from (bOf_eq ⟨fun e => ⟨by rw [← hv0] at e; exact of_decide_eq_true e, fun j hj => absurd hj (Nat.not_lt_zero _)⟩, fun h => by rw [← hv0]; exact decide_eq_true h.1⟩).symm)
      go_wp2_with fail
      try rw [hv0]
      clear hv0
      go_loopw [15, 16] (fun s15 s16 wr => ∃ (j : Nat) (v : Bool), s15 = .bool v ∧ s16 = .int .i64 j ∧ j ≤ nw ∧ Hid (v = bOf (WayB nr i ls cf T nw lf j)) ∧ Below w5.heap.size w5 wr) (fun _ s16 _ => nw - (intOf s16).toNat)
      case atStart => exact ⟨0, v0, rfl, rfl, by omega, HV0, hb⟩
      case round =>
        clear HFL GB hw hb HV0
        obtain ⟨j, v, rfl, rfl, hj, hv, hb⟩ := hrel
        have GB := Lib.hid (GB5.out.below hb)
        have hw := hw5.trans (hb.mono hw5.size)
        have HEND := Lib.hid (fun (he : v = cp) (W : World) (h : Below w.heap.size w W) => he)
        cases v with
        | false =>
          have HCPF := Lib.hid (show false = cp by rw [← HCP.out]; exact (bOf_no (fun hP : ClnP nr i ls cf T nw lf => not_bOf hv.out.symm ⟨hP.1, fun x hx => hP.2 x (by omega)⟩)).symm)
          obtain rfl := HCPF.out
          go_wp2_with fail
          all_goals
            refine (awake_any _).mono ?_
            rintro e w9 ⟨rfl, hb9⟩
            go_wp2_with fail
            go_ret
            exact ⟨rfl, hw.trans (hb9.mono hw.size)⟩
        | true =>
          by_cases hlt : j < nw
          · as_aux_lemma =>
              obtain ⟨bw, ow, rfl, hcw⟩ := HWY.out.below hw (by omega)
              have c2 := hcw j hlt
              generalize hx : lf j = x at c2
              have HX := Lib.hid hx
              clear hx
              have z1 : (j : Int) < (nw : Int) := by omega
              have z2 : (0 : Int) ≤ (j : Int) := Int.natCast_nonneg _
              have c0 : wr.cell? ⟨w.heap.size, 0, none⟩ = some (.slice pr nr cr) := cell_of_block GB.out rfl
              have c1 : wr.cell? ⟨w.heap.size, 1, none⟩ = some (.slice pl i cl) := cell_of_block GB.out rfl
              have HBAD := Lib.hid (fun (hn : ¬ ClnOK nr i ls cf T lf j) => WayB.succ hv.out.symm false ⟨(fun h => by cases h), fun h => absurd h hn⟩)
              have HGOOD := Lib.hid (fun (hn : ClnOK nr i ls cf T lf j) => WayB.succ hv.out.symm true ⟨fun _ => hn, fun _ => rfl⟩)
              by_cases p1 : 0 ≤ x
              · by_cases p2 : x < (nr : Int)
                · obtain ⟨x, rfl⟩ : ∃ y : Nat, x = y := ⟨x.toNat, by omega⟩
                  obtain ⟨bc, oc, rfl, hcc⟩ := HC.out.below hw (by omega)
                  have c3 := hcc x (by omega)
                  clear hcc
                  cases hcx : cf x with
                  | true =>
                    rw [hcx] at c3
                    have HNX := Lib.hid (HBAD.out (fun h => by have := h.2.1; rw [HX.out, Int.toNat_natCast, hcx] at this; cases this))
                    clear hcx hcw
                    go_wp2_with fail
                    go_roundw
                    case rel => exact ⟨j + 1, _, rfl, by go_num, hlt, HNX, hb⟩
                    case measure => simp [intOf]; omega
                  | false =>
                    rw [hcx] at c3
                    have HCX := Lib.hid hcx
                    clear hcx
                    cases j with
                    | zero =>
                      have c4 : wr.cell? ⟨bw, ow, none⟩ = some (.int .i64 x) := c2
                      have HNX := Lib.hid (HGOOD.out (by unfold ClnOK; rw [HX.out, Int.toNat_natCast]; exact ⟨⟨p1, p2⟩, HCX.out, fun h => absurd h (Nat.lt_irrefl _)⟩))
                      clear hcw c2
                      go_wp2_with fail
                      go_roundw
                      case rel => exact ⟨1, _, rfl, rfl, hlt, HNX, hb⟩
                      case measure => simp [intOf]; omega
                    | succ jp =>
                      have c4 := hcw jp (by omega)
                      clear hcw
                      generalize hy : lf jp = y at c4
                      have HY := Lib.hid hy
                      clear hy
                      have hwp : IntKind.i64.wrap (jp : Int) = (jp : Int) := IntWalk.i64_in _ (by omega)
                      have z5 : (0 : Int) < (jp : Int) + 1 := by omega
                      have z6 : (jp : Int) < (nw : Int) := by omega
                      have z7 : (0 : Int) ≤ (jp : Int) := Int.natCast_nonneg _
                      have z8 : (jp : Int) + 1 < (nw : Int) := by omega
                      have z9 : (0 : Int) ≤ (jp : Int) + 1 := by omega
                      have z10 : ((jp : Int) + 1).toNat = jp + 1 := by omega
                      have g0 := GB.out
                      have q4 : ∀ xl : Later wr [], xl.w.cell? ⟨bw, ow + jp, none⟩ = some (.int .i64 y) := cellLater c4
                      have q2 : ∀ xl : Later wr [], xl.w.cell? ⟨bw, ow + (jp + 1), none⟩ = some (.int .i64 x) := cellLater c2
                      have hlat := Lib.hid (fun (xl : Later wr []) => HH.out.l.below (hw.trans ((xl.h.below (Nat.le_refl _) (fun d hd => by cases hd) : Below wr.heap.size wr xl.w).mono hw.size)))
                      go_upto_region 24 with (fail)
                      refine draws_hid (by kernel_rfl) (by kernel_rfl) (by kernel_rfl) (fun W hW ops hops => ?_)
                      subst hW
                      clear hops c0 c1 c2 c3 c4
                      have f1 : ∀ xl : Later W [], xl.w.cell? ⟨w.heap.size, 1, none⟩ = some (.slice pl i cl) := fun xl => cell_of_block (Later.at0 g0 xl) rfl
                      repeat (refine walkT_step (fun K hK => ?_); go_simp; first | (refine hK _ _ ?_; clear hK K) | (refine ⟨_, fun xl => reflink_low h2 (hlat.out xl), ?_⟩; refine hK _ _ ?_; clear hK K))
                      refine walkT_nil ?_
                      intro w6 hc
                      have hb6 := hb.trans (hc.below.mono hb.size)
                      have g6 := hc.at0 g0
                      clear hc f1 q2 q4 hlat g0 hwp z10
                      have hw6 := hw5.trans (hb6.mono hw5.size)
                      have c0 : w6.cell? ⟨w.heap.size, 0, none⟩ = some (.slice pr nr cr) := cell_of_block g6 rfl
                      have c1 : w6.cell? ⟨w.heap.size, 1, none⟩ = some (.slice pl i cl) := cell_of_block g6 rfl
                      clear g6
                      have HCS := Lib.hid (lnkR_cases ls y (x : Int) i)
                      generalize hlk : lnkR ls y (x : Int) i = lk at HCS ⊢
                      have HLK := Lib.hid hlk
                      clear hlk
                      rcases HCS.out with ⟨e1, _⟩ | ⟨k2, hk2, e1, _⟩
                      · subst e1
                        have HNX := Lib.hid (HBAD.out (fun h => by
                          obtain ⟨_, _, h3⟩ := h
                          obtain ⟨k3, hk3, _⟩ := h3 (by omega)
                          rw [HX.out, Nat.add_sub_cancel, HY.out, HLK.out] at hk3
                          omega))
                        go_wp2_with fail
                        go_roundw
                        case rel => exact ⟨jp + 1 + 1, _, rfl, by go_num, hlt, HNX, hb6⟩
                        case measure => simp [intOf]; omega
                      · subst e1
                        have y1 : (0 : Int) ≤ (k2 : Int) := Int.natCast_nonneg _
                        have HT := Lib.hid (HTN.out w6 k2 hk2 hw6)
                        cases htk : T k2 with
                        | true =>
                          rw [htk] at HT
                          have HNX := Lib.hid (HBAD.out (fun h => by
                            obtain ⟨_, _, h3⟩ := h
                            obtain ⟨k3, hk3, hk4⟩ := h3 (by omega)
                            rw [HX.out, Nat.add_sub_cancel, HY.out, HLK.out] at hk3
                            have e : k2 = k3 := by omega
                            rw [← e, htk] at hk4; cases hk4))
                          clear htk
                          go_wp2_with fail
                          refine (HT.out).mono ?_
                          rintro e w7 ⟨rfl, hb7⟩
                          have hb8 := hb6.trans (hb7.mono hb6.size)
                          clear hb7 c0 c1
                          go_wp2_with fail
                          go_roundw
                          case rel => exact ⟨jp + 1 + 1, _, rfl, by go_num, hlt, HNX, hb8⟩
                          case measure => simp [intOf]; omega
                        | false =>
                          rw [htk] at HT
                          have HNX := Lib.hid (HGOOD.out (by unfold ClnOK; rw [HX.out, Int.toNat_natCast, Nat.add_sub_cancel, HY.out, HLK.out]; exact ⟨⟨p1, p2⟩, HCX.out, fun _ => ⟨k2, rfl, htk⟩⟩))
                          clear htk
                          go_wp2_with fail
                          refine (HT.out).mono ?_
                          rintro e w7 ⟨rfl, hb7⟩
                          have hb8 := hb6.trans (hb7.mono hb6.size)
                          clear hb7 c0 c1
                          go_wp2_with fail
                          go_roundw
                          case rel => exact ⟨jp + 1 + 1, _, rfl, by go_num, hlt, HNX, hb8⟩
                          case measure => simp [intOf]; omega
                · have HNX := Lib.hid (HBAD.out (fun h => by have := h.1.2; rw [HX.out] at this; exact p2 this))
                  have d9 : decide (x < (nr : Int)) = false := decide_eq_false p2
                  clear hcw
                  go_wp2_with fail
                  go_roundw
                  case rel => exact ⟨j + 1, _, rfl, by go_num, hlt, HNX, hb⟩
                  case measure => simp [intOf]; omega
              · have HNX := Lib.hid (HBAD.out (fun h => by have := h.1.1; rw [HX.out] at this; exact p1 this))
                have d9 : decide (0 ≤ x) = false := decide_eq_false p1
                clear hcw
                go_wp2_with fail
                go_roundw
                case rel => exact ⟨j + 1, _, rfl, by go_num, hlt, HNX, hb⟩
                case measure => simp [intOf]; omega
          · obtain rfl : j = nw := by omega
            have HCPT := Lib.hid (show true = cp by rw [← HCP.out]; exact hv.out)
            obtain rfl := HCPT.out
            go_wp2_with fail
            refine (awake_any _).mono ?_
            rintro e w9 ⟨rfl, hb9⟩
            go_wp2_with fail
            go_ret
            exact ⟨rfl, hw.trans (hb9.mono hw.size)⟩
end Go.Proofs.Ytgmlaimlcccmhaa
