/-
  WHICH LINKS ARE TAINTED: Links. CONDITIONS: at most 40 ranks and 400 links, at most 40 flags.
-/
import Derived.Test.YtgmlaimlcccmhaaNTaint
import Derived.Test.YtgmlaimlcccmhaaNPlaces
namespace Go.Proofs.Ytgmlaimlcccmhaa
open Go.RowKit Go.Proofs.Ytgmlaimlcccmhaa.Tame
set_option maxHeartbeats 400000

theorem may_val {pr : Option Addr} {nr cr : Nat} {pl : Option Addr} {nl cl : Nat} {rk : Fn} {ls : Ls} {w : World} {v : Bool} (hnr : nr ≤ 40) (hnl : nl ≤ 400) (hh : HAt w pr nr rk pl nl ls) (hv : bOf (MayP nr rk nl ls) = v) :
    Calls Try.prog 12 #[HV pr nr cr pl nl cl] w fun e w' => e = .returned (.bool v) ∧ Below w.heap.size w w' := by
  have := may_any pr nr cr pl nl cl rk ls w hnr hnl hh
  rwa [hv] at this
theorem ret_tup2 {a b c d : Value} (h1 : a = c) (h2 : b = d) : Ending.returned (.tuple #[a, b]) = .returned (.tuple #[c, d]) := by rw [h1, h2]
def LinksNo (w : World) (e : Ending) (w' : World) : Prop := e = .returned (.tuple #[.slice none 0 0, .int .i64 1]) ∧ Below w.heap.size w w'
def LinksYes (w : World) (nl : Nat) (T : Fl) (e : Ending) (w' : World) : Prop := ∃ u, e = .returned (.tuple #[.slice (some ⟨u, 0, none⟩) nl nl, .int .i64 0]) ∧ w.heap.size ≤ u ∧ FlagsAt w' u nl T ∧ Below w.heap.size w w'
theorem links_no (pr : Option Addr) (nr cr : Nat) (pl : Option Addr) (nl cl : Nat) (pc : Option Addr) (nc cc : Nat) (rk : Fn) (ls : Ls) (w : World) (hnr : nr ≤ 40) (hnl : nl ≤ 400) (hh : HAt w pr nr rk pl nl ls) (hno : ¬ (MayP nr rk nl ls ∧ nc = nr)) :
    Calls Try.prog 6 #[HV pr nr cr pl nl cl, .slice pc nc cc] w (LinksNo w) := by
  have HH := Lib.hid hh
  clear hh
  cases hv : bOf (MayP nr rk nl ls)
  · have HV := Lib.hid hv
    clear hv hno
    go_enter Try.func6, Try.ntmps6
    go_wp2_with fail
    refine (may_val hnr hnl (HH.out.below (by go_grown)) HV.out).mono ?_
    rintro e w1 ⟨rfl, hb1⟩
    have hw1 := (by go_grown : Below w.heap.size w (w.alloc (.cells #[.slice pr nr cr, .slice pl nl cl] 25))).trans (hb1.mono (by simp))
    clear hb1
    go_wp2_with fail
    go_ret2
    exact ⟨rfl, hw1⟩
  · have HV := Lib.hid hv
    have hne : nc ≠ nr := fun e => hno ⟨of_bOf hv, e⟩
    have d1 : ((nc : Int) == (nr : Int)) = false := beq_eq_false_iff_ne.2 (by omega)
    have d2 : ((nc : Int) != (nr : Int)) = true := bne_iff_ne.2 (by omega)
    clear hv hno hne
    go_enter Try.func6, Try.ntmps6
    go_wp2_with fail
    refine (may_val hnr hnl (HH.out.below (by go_grown)) HV.out).mono ?_
    rintro e w1 ⟨rfl, hb1⟩
    have gB : BoxH w1 w.heap.size pr nr cr pl nl cl := BoxH.below (heap_alloc_is rfl) hb1
    have c0 : w1.cell? ⟨w.heap.size, 0, none⟩ = some (.slice pr nr cr) := cell_of_block gB rfl
    have hw1 := (by go_grown : Below w.heap.size w (w.alloc (.cells #[.slice pr nr cr, .slice pl nl cl] 25))).trans (hb1.mono (by simp))
    clear hb1 gB
    go_wp2_with fail
    go_ret2
    exact ⟨rfl, hw1⟩
theorem BoxH.but {w w' : World} {b u : Nat} {pr : Option Addr} {nr cr : Nat} {pl : Option Addr} {nl cl : Nat} (h : BoxH w b pr nr cr pl nl cl) (hk : Kept [u] w w') (hne : b ≠ u) : BoxH w' b pr nr cr pl nl cl := (hk.block b (lt_of_some h) (not_mem1 hne)).trans h
/-- The flag by the ends alone, and with the halves. -/
def endsB (cl : Fl) (x : Lk) : Bool := cl x.a.toNat || cl x.b.toNat
theorem FlagsAt.lt {w : World} {u n : Nat} {U : Fl} (h : FlagsAt w u n U) : u < w.heap.size := by
  obtain ⟨cu, h1, _⟩ := h
  exact lt_of_some h1
theorem Kept.step {u : Nat} {a b c : World} (h : Kept [u] a b) (hb : Below b.heap.size b c) : Kept [u] a c := h.grow hb

set_option maxRecDepth 100000 in
set_option maxHeartbeats 4000000 in
theorem links_yes (pr : Option Addr) (nr cr : Nat) (pl : Option Addr) (nl cl : Nat) (pc : Option Addr) (cc : Nat) (rk : Fn) (ls : Ls) (cf : Fl) (w : World) (hnr : nr ≤ 40) (hnl : nl ≤ 400) (hh : HAt w pr nr rk pl nl ls) (hc : BoolsAt w pc nr cf) (hM : MayP nr rk nl ls) :
    Calls Try.prog 6 #[HV pr nr cr pl nl cl, .slice pc nr cc] w (LinksYes w nl (tnF cf ls nl nr)) := by
  obtain ⟨i0, hi0, hz0', hz1', hz2'⟩ := info_parts info4
  have HH := Lib.hid hh
  have HC := Lib.hid hc
  have HM := Lib.hid hM
  have HV := Lib.hid (bOf_yes hM)
  clear hh hc hM
  obtain ⟨T, hT⟩ : ∃ T, tnF cf ls nl nr = T := ⟨_, rfl⟩
  rw [hT]
  have HT := Lib.hid hT
  clear hT
  go_enter Try.func6, Try.ntmps6
  go_wp2_with fail
  refine (may_val hnr hnl (HH.out.below (by go_grown)) HV.out).mono ?_
  rintro e w1 ⟨rfl, hb1⟩
  have gB : BoxH w1 w.heap.size pr nr cr pl nl cl := BoxH.below (heap_alloc_is rfl) hb1
  have hw1 := (by go_grown : Below w.heap.size w (w.alloc (.cells #[.slice pr nr cr, .slice pl nl cl] 25))).trans (hb1.mono (by simp))
  clear hb1
  have c0 : w1.cell? ⟨w.heap.size, 0, none⟩ = some (.slice pr nr cr) := cell_of_block gB rfl
  have c1 : w1.cell? ⟨w.heap.size, 1, none⟩ = some (.slice pl nl cl) := cell_of_block gB rfl
  have GB := Lib.hid gB
  have hsz1 := lt_of_some gB
  clear gB
  go_wp2_with fail
  refine (places_any _ _ _ _ _ _ ls _ hnl (HH.out.l.below hw1) (HM.out.2.1.ends (by omega))).mono ?_
  rintro e w2 ⟨bm, rfl, hbm, hb2, hmap⟩
  have HMAP := Lib.hid hmap
  have GB2 := Lib.hid (GB.out.below hb2)
  have hw2 := hw1.trans (hb2.mono hw1.size)
  have hsz2 := hb2.size
  clear hb2 hmap c0 c1 hw1 GB
  have c0 : w2.cell? ⟨w.heap.size, 0, none⟩ = some (.slice pr nr cr) := cell_of_block GB2.out rfl
  have c1 : w2.cell? ⟨w.heap.size, 1, none⟩ = some (.slice pl nl cl) := cell_of_block GB2.out rfl
  go_wp2_with (at_make; refine wpList_make_full _ rfl _ _ 26 rfl w2.heap.size 4 i0 (.bool false) 1 Try.underlying26 hi0 hz0' hz1' .i64 .i64 nl nl nl rfl rfl rfl rfl (by rw [hz2']; omega) (by unfold maxLen; omega) (Nat.le_refl _) ?_; intro w3 hown3 hgrow; obtain ⟨u, hu⟩ : ∃ u, u = w2.heap.size := ⟨_, rfl⟩; rw [← hu] at hown3 ⊢; have hb3 : Below w2.heap.size w2 w3 := (Below.refl w2.heap.size w2).grown hgrow (Nat.le_refl _) (fun k hk => by cases hk); have HF := Lib.hid (flags_made hown3); have GB3 := Lib.hid (GB2.out.below hb3); have HMAP3 := Lib.hid (HMAP.out.below hb3); have hbmu : bm < u := (by rw [hu]; exact World.ownsMap.lt HMAP.out); have hw3 := hw2.trans (hb3.mono hw2.size); have hu3 : u < w3.heap.size := HF.out.lt; have hus : w.heap.size < u := (by omega); clear hown3 hgrow hu hb3 hw2 c0 c1 GB2 HMAP hsz1 hsz2; have c0 : w3.cell? ⟨w.heap.size, 0, none⟩ = some (.slice pr nr cr) := cell_of_block GB3.out rfl; have c1 : w3.cell? ⟨w.heap.size, 1, none⟩ = some (.slice pl nl cl) := cell_of_block GB3.out rfl)
  refine (order_all _ _ _ _ _ _ rk ls _ hnr hnl (HH.out.below hw3) HM.out.mid).mono ?_
  rintro e w4 ⟨po, co, h, rfl, hb4, hsw, hasc, hrow⟩
  have HSW := Lib.hid hsw
  have HASC := Lib.hid hasc
  have HROW := Lib.hid hrow
  have GB4 := Lib.hid (GB3.out.below hb4)
  have HMAP4 := Lib.hid (HMAP3.out.below hb4)
  have HF4 := Lib.hid (HF.out.below hb4)
  have hw4 := hw3.trans (hb4.mono hw3.size)
  have hu4 := Nat.lt_of_lt_of_le hu3 hb4.size
  clear hsw hasc hrow hb4 c0 c1 HF GB3 HMAP3 hw3
  go_wp2_with fail
  go_loopw [31] (fun s31 wr => ∃ (t : Nat) (U : Fl), s31 = .int .i64 t ∧ t ≤ nl ∧ Hid (Kept [u] w4 wr) ∧ Hid (FlagsAt wr u nl U) ∧ Hid (DoneU T t h U)) (fun s31 _ => nl - (intOf s31).toNat)
  case atStart => exact ⟨0, _, rfl, by omega, Lib.hid (Kept.refl _ _), HF4, Lib.hid (fun s hs => absurd hs (Nat.not_lt_zero _))⟩
  case round =>
    clear HF4
    obtain ⟨t, U, rfl, ht, hk, hfl, hdone⟩ := hrel
    have HB := Lib.hid (hw4.trans (hk.out.below hw4.size (fun d hd => by rw [List.mem_singleton.1 hd]; omega)))
    by_cases hlt : t < nl
    · obtain ⟨i, hin, hi⟩ := order_in HSW.out hlt
      obtain ⟨g, rfl, hg, cur, hcur, hcv⟩ := (HROW.out.but hk.out hu3) (by omega)
      have r0 : wr.cell? ⟨g, t, none⟩ = some (.int .i64 i) := by rw [← hi]; exact cell_of_block hcur (hcv t hlt)
      clear hcur hcv
      obtain ⟨b, off, rfl, hc⟩ := HH.out.l.below HB.out (by omega)
      have hci := hc i hin
      clear hc
      have hok := HM.out.2.1 i hin
      unfold LkOK at hok
      have HI := Lib.hid hi
      clear hi
      generalize hA : ls i = A at hci hok
      have HA := Lib.hid hA
      clear hA
      obtain ⟨va, vb, _, _, _, _⟩ := hok
      obtain ⟨a, bq, q, m⟩ := A
      simp only at va vb
      obtain ⟨a, rfl⟩ : ∃ k : Nat, a = k := ⟨a.toNat, by have := va.1; omega⟩
      obtain ⟨e, rfl⟩ : ∃ k : Nat, bq = k := ⟨bq.toNat, by have := vb.1; omega⟩
      have han : a < nr := by have := va.2; omega
      have hen : e < nr := by have := vb.2; omega
      clear va vb
      obtain ⟨k0, k1, k2, k3⟩ := hci
      simp only at k0 k1 k2 k3
      have hbl := World.block_lt_of_cell? wr _ k0
      simp only at hbl
      obtain ⟨bc, oc, rfl, hcb⟩ := HC.out.below HB.out (by omega)
      have l0 := hcb a han
      have l1 := hcb e hen
      have hcl := World.block_lt_of_cell? wr _ l0
      simp only at hcl
      clear hcb
      have gB : BoxH wr w.heap.size pr nr cr (some ⟨b, off, none⟩) nl cl := GB4.out.but hk.out (by omega)
      have hbx := lt_of_some gB
      have c1 : wr.cell? ⟨w.heap.size, 1, none⟩ = some (.slice (some ⟨b, off, none⟩) nl cl) := cell_of_block gB rfl
      clear gB
      have z1 : (t : Int) < (nl : Int) := by omega
      have z2 : (i : Int) < (nl : Int) := by omega
      have z3 : (a : Int) < (nr : Int) := by omega
      have z4 : (e : Int) < (nr : Int) := by omega
      have y1 : (0 : Int) ≤ (i : Int) := Int.natCast_nonneg _
      have y2 : (0 : Int) ≤ (a : Int) := Int.natCast_nonneg _
      have y3 : (0 : Int) ≤ (e : Int) := Int.natCast_nonneg _
      have hur : u < wr.heap.size := hfl.out.lt
      have hfr : wr.frozen? ⟨u, i, none⟩ = false := by obtain ⟨cu, hcu, _⟩ := hfl.out; exact free_of_block hcu
      have hfc : wr.cell? ⟨u, i, none⟩ = some (.bool (U i)) := by obtain ⟨cu, hcu, hcv⟩ := hfl.out; exact cell_of_block hcu (hcv i hin)
      generalize hca : cf a = ca at l0
      generalize hce : cf e = ce at l1
      have HCA := Lib.hid hca
      have HCE := Lib.hid hce
      clear hca hce
      obtain ⟨v1, hv1⟩ : ∃ v1 : Bool, v1 = (ca || ce) := ⟨_, rfl⟩
      have HV1 := Lib.hid hv1
      clear hv1
      cases ca with
      | true =>
        go_upto_region 10 with (fail)
        refine wp_at (fun W9 hW9 => ?_)
        have gX : W9.heap[wr.heap.size]? = some (.cells #[.int .i64 a, .int .i64 e, .int .i64 q, .int .i64 m] 40) := by rw [hW9]; exact heap_alloc_is (by simp)
        have hk9 := Lib.hid (show Kept [u] w4 W9 by rw [hW9]; exact (Tame.Kept.setIn hk.out i (.bool true)).grow (by go_grown))
        have hf9 := Lib.hid (show FlagsAt W9 u nl (setFl U i true) by rw [hW9]; exact (hfl.out.set hin true).below (by go_grown))
        have hsz9 : wr.heap.size < W9.heap.size := lt_of_some gX
        clear hW9 r0 k0 k1 k2 k3 l0 l1 c1 hfr hfc
        have x0 : W9.cell? ⟨wr.heap.size, 0, none⟩ = some (.int .i64 a) := cell_of_block gX rfl
        have x1 : W9.cell? ⟨wr.heap.size, 1, none⟩ = some (.int .i64 e) := cell_of_block gX rfl
        have x3 : W9.cell? ⟨wr.heap.size, 3, none⟩ = some (.int .i64 m) := cell_of_block gX rfl
        clear gX
        by_cases hm : m = -1
        · as_aux_lemma =>
            subst hm
            have hTi : true = T i := by rw [← HT.out, taint_leaf cf nr (show (ls i).m = -1 by rw [HA.out]), HA.out]; simp only [Int.toNat_natCast]; rw [HCA.out, HCE.out]; rfl
            have HD := Lib.hid (hdone.out.next HSW.out hlt HI.out (U' := setFl U i true) (by unfold setFl; rw [if_pos rfl]; exact hTi) (fun x hx => by unfold setFl; rw [if_neg hx]))
            clear hTi
            go_wp2_with fail
            go_roundw
            case rel => exact ⟨t + 1, _, by go_num, hlt, hk9, hf9, HD⟩
            case measure => simp [intOf]; omega
        · as_aux_lemma =>
            obtain ⟨ka, kb, hH⟩ := HM.out.halves hin (by rw [HA.out]; exact hm)
            have HH2 := Lib.hid hH
            have hTi := Lib.hid (HM.out.taint_join cf hin (by rw [HA.out]; exact hm) hH)
            have hvm : Vtx nr m := by have := (HM.out.jn hin (by rw [HA.out]; exact hm)).1; rw [HA.out] at this; exact this
            obtain ⟨m, rfl⟩ : ∃ k : Nat, m = k := ⟨m.toNat, by have := hvm.1; omega⟩
            have hmn : m < nr := by have := hvm.2; omega
            clear hvm
            have d1 : ((m : Int) == -1) = false := beq_eq_false_iff_ne.2 hm
            have d2 : ((m : Int) != -1) = true := bne_iff_ne.2 hm
            clear hm
            have hka := hH.ha
            have hkb := hH.hb
            obtain ⟨sa, hsa, esa⟩ := before_of_key (key := keyL rk ls) HSW.out HASC.out hH.ha hlt (by unfold keyL; rw [HI.out, Int.toNat_natCast, Int.toNat_natCast]; exact hH.ka')
            obtain ⟨sb, hsb, esb⟩ := before_of_key (key := keyL rk ls) HSW.out HASC.out hH.hb hlt (by unfold keyL; rw [HI.out, Int.toNat_natCast, Int.toNat_natCast]; exact hH.kb')
            have hnea : ka ≠ i := fun ee => by have := hH.ka'; rw [ee] at this; omega
            have hneb : kb ≠ i := fun ee => by have := hH.kb'; rw [ee] at this; omega
            have eUa : U ka = T ka := by have := hdone.out sa hsa; rw [esa, Int.toNat_natCast] at this; exact this
            have eUb : U kb = T kb := by have := hdone.out sb hsb; rw [esb, Int.toNat_natCast] at this; exact this
            have HT2 := Lib.hid (show T i = (true || (T ka || T kb)) by rw [← HT.out, hTi.out, HA.out]; simp only [Int.toNat_natCast]; rw [HCA.out, HCE.out]; rfl)
            clear esa esb hsa hsb hTi
            have hE := HM.out.2.1.ends (show nr ≤ 1000000 by omega)
            have hR := HM.out.2.1.rise
            have hmap9 := HMAP4.out.but hk9.out (by omega)
            have la := hH.la
            have lb := hH.lb
            rw [HA.out] at la lb
            have q1 := MapAt.look hmap9 hE hR (x := (a : Int)) (y := (m : Int)) (by omega) (by omega) hka la
            have q2 := MapAt.look hmap9 hE hR (x := (m : Int)) (y := (e : Int)) (by omega) (by omega) hkb lb
            clear hE hR hmap9 la lb hH
            have f0 : W9.cell? ⟨u, i, none⟩ = some (.bool true) := by obtain ⟨cu, hcu, hcv⟩ := hf9.out; have := hcv i hin; unfold setFl at this; rw [if_pos rfl] at this; exact cell_of_block hcu this
            have f1 : W9.cell? ⟨u, ka, none⟩ = some (.bool (T ka)) := by obtain ⟨cu, hcu, hcv⟩ := hf9.out; have := hcv ka hka; unfold setFl at this; rw [if_neg hnea, eUa] at this; exact cell_of_block hcu this
            have f2 : W9.cell? ⟨u, kb, none⟩ = some (.bool (T kb)) := by obtain ⟨cu, hcu, hcv⟩ := hf9.out; have := hcv kb hkb; unfold setFl at this; rw [if_neg hneb, eUb] at this; exact cell_of_block hcu this
            have f3 : W9.frozen? ⟨u, i, none⟩ = false := by obtain ⟨cu, hcu, _⟩ := hf9.out; exact free_of_block hcu
            have y4 : (0 : Int) ≤ (ka : Int) := Int.natCast_nonneg _
            have y5 : (0 : Int) ≤ (kb : Int) := Int.natCast_nonneg _
            have z5 : (ka : Int) < (nl : Int) := by omega
            have z6 : (kb : Int) < (nl : Int) := by omega
            clear eUa eUb hnea hneb
            have HD := Lib.hid (hdone.out.next HSW.out hlt HI.out (U' := setFl (setFl U i true) i true) (by rw [HT2.out]; unfold setFl; rw [if_pos rfl]; exact (Bool.true_or _).symm) (fun x hx => by unfold setFl; rw [if_neg hx, if_neg hx]))
            have HK := Lib.hid (Tame.Kept.setIn hk9.out i (.bool true))
            have HFL := Lib.hid (hf9.out.set hin true)
            clear HT2
            go_wp2_with fail
            go_roundw
            case rel => exact ⟨t + 1, _, by go_num, hlt, HK, HFL, HD⟩
            case measure => simp [intOf]; omega
      | false =>
        go_upto_region 10 with (fail)
        refine wp_at (fun W9 hW9 => ?_)
        have gX : W9.heap[wr.heap.size]? = some (.cells #[.int .i64 a, .int .i64 e, .int .i64 q, .int .i64 m] 40) := by rw [hW9]; exact heap_alloc_is (by simp)
        have hk9 := Lib.hid (show Kept [u] w4 W9 by rw [hW9]; exact (Tame.Kept.setIn hk.out i (.bool ce)).grow (by go_grown))
        have hf9 := Lib.hid (show FlagsAt W9 u nl (setFl U i ce) by rw [hW9]; exact (hfl.out.set hin ce).below (by go_grown))
        have hsz9 : wr.heap.size < W9.heap.size := lt_of_some gX
        clear hW9 r0 k0 k1 k2 k3 l0 l1 c1 hfr hfc
        have x0 : W9.cell? ⟨wr.heap.size, 0, none⟩ = some (.int .i64 a) := cell_of_block gX rfl
        have x1 : W9.cell? ⟨wr.heap.size, 1, none⟩ = some (.int .i64 e) := cell_of_block gX rfl
        have x3 : W9.cell? ⟨wr.heap.size, 3, none⟩ = some (.int .i64 m) := cell_of_block gX rfl
        clear gX
        by_cases hm : m = -1
        · as_aux_lemma =>
            subst hm
            have hTi : ce = T i := by rw [← HT.out, taint_leaf cf nr (show (ls i).m = -1 by rw [HA.out]), HA.out]; simp only [Int.toNat_natCast]; rw [HCA.out, HCE.out]; rfl
            have HD := Lib.hid (hdone.out.next HSW.out hlt HI.out (U' := setFl U i ce) (by unfold setFl; rw [if_pos rfl]; exact hTi) (fun x hx => by unfold setFl; rw [if_neg hx]))
            clear hTi
            go_wp2_with fail
            go_roundw
            case rel => exact ⟨t + 1, _, by go_num, hlt, hk9, hf9, HD⟩
            case measure => simp [intOf]; omega
        · as_aux_lemma =>
            obtain ⟨ka, kb, hH⟩ := HM.out.halves hin (by rw [HA.out]; exact hm)
            have HH2 := Lib.hid hH
            have hTi := Lib.hid (HM.out.taint_join cf hin (by rw [HA.out]; exact hm) hH)
            have hvm : Vtx nr m := by have := (HM.out.jn hin (by rw [HA.out]; exact hm)).1; rw [HA.out] at this; exact this
            obtain ⟨m, rfl⟩ : ∃ k : Nat, m = k := ⟨m.toNat, by have := hvm.1; omega⟩
            have hmn : m < nr := by have := hvm.2; omega
            clear hvm
            have d1 : ((m : Int) == -1) = false := beq_eq_false_iff_ne.2 hm
            have d2 : ((m : Int) != -1) = true := bne_iff_ne.2 hm
            clear hm
            have hka := hH.ha
            have hkb := hH.hb
            obtain ⟨sa, hsa, esa⟩ := before_of_key (key := keyL rk ls) HSW.out HASC.out hH.ha hlt (by unfold keyL; rw [HI.out, Int.toNat_natCast, Int.toNat_natCast]; exact hH.ka')
            obtain ⟨sb, hsb, esb⟩ := before_of_key (key := keyL rk ls) HSW.out HASC.out hH.hb hlt (by unfold keyL; rw [HI.out, Int.toNat_natCast, Int.toNat_natCast]; exact hH.kb')
            have hnea : ka ≠ i := fun ee => by have := hH.ka'; rw [ee] at this; omega
            have hneb : kb ≠ i := fun ee => by have := hH.kb'; rw [ee] at this; omega
            have eUa : U ka = T ka := by have := hdone.out sa hsa; rw [esa, Int.toNat_natCast] at this; exact this
            have eUb : U kb = T kb := by have := hdone.out sb hsb; rw [esb, Int.toNat_natCast] at this; exact this
            have HT2 := Lib.hid (show T i = (ce || (T ka || T kb)) by rw [← HT.out, hTi.out, HA.out]; simp only [Int.toNat_natCast]; rw [HCA.out, HCE.out]; rfl)
            clear esa esb hsa hsb hTi
            have hE := HM.out.2.1.ends (show nr ≤ 1000000 by omega)
            have hR := HM.out.2.1.rise
            have hmap9 := HMAP4.out.but hk9.out (by omega)
            have la := hH.la
            have lb := hH.lb
            rw [HA.out] at la lb
            have q1 := MapAt.look hmap9 hE hR (x := (a : Int)) (y := (m : Int)) (by omega) (by omega) hka la
            have q2 := MapAt.look hmap9 hE hR (x := (m : Int)) (y := (e : Int)) (by omega) (by omega) hkb lb
            clear hE hR hmap9 la lb hH
            have f0 : W9.cell? ⟨u, i, none⟩ = some (.bool ce) := by obtain ⟨cu, hcu, hcv⟩ := hf9.out; have := hcv i hin; unfold setFl at this; rw [if_pos rfl] at this; exact cell_of_block hcu this
            have f1 : W9.cell? ⟨u, ka, none⟩ = some (.bool (T ka)) := by obtain ⟨cu, hcu, hcv⟩ := hf9.out; have := hcv ka hka; unfold setFl at this; rw [if_neg hnea, eUa] at this; exact cell_of_block hcu this
            have f2 : W9.cell? ⟨u, kb, none⟩ = some (.bool (T kb)) := by obtain ⟨cu, hcu, hcv⟩ := hf9.out; have := hcv kb hkb; unfold setFl at this; rw [if_neg hneb, eUb] at this; exact cell_of_block hcu this
            have f3 : W9.frozen? ⟨u, i, none⟩ = false := by obtain ⟨cu, hcu, _⟩ := hf9.out; exact free_of_block hcu
            have y4 : (0 : Int) ≤ (ka : Int) := Int.natCast_nonneg _
            have y5 : (0 : Int) ≤ (kb : Int) := Int.natCast_nonneg _
            have z5 : (ka : Int) < (nl : Int) := by omega
            have z6 : (kb : Int) < (nl : Int) := by omega
            clear eUa eUb hnea hneb
            cases ce with
            | true =>
              have HD := Lib.hid (hdone.out.next HSW.out hlt HI.out (U' := setFl (setFl U i true) i true) (by rw [HT2.out]; unfold setFl; rw [if_pos rfl]; exact (Bool.true_or _).symm) (fun x hx => by unfold setFl; rw [if_neg hx, if_neg hx]))
              have HK := Lib.hid (Tame.Kept.setIn hk9.out i (.bool true))
              have HFL := Lib.hid (hf9.out.set hin true)
              clear HT2
              go_wp2_with fail
              go_roundw
              case rel => exact ⟨t + 1, _, by go_num, hlt, HK, HFL, HD⟩
              case measure => simp [intOf]; omega
            | false =>
              cases hta : T ka with
              | true =>
                have HTA := Lib.hid hta
                rw [hta] at f1
                clear hta
                have HD := Lib.hid (hdone.out.next HSW.out hlt HI.out (U' := setFl (setFl U i false) i true) (by rw [HT2.out]; unfold setFl; rw [if_pos rfl]; rw [HTA.out]; rfl) (fun x hx => by unfold setFl; rw [if_neg hx, if_neg hx]))
                have HK := Lib.hid (Tame.Kept.setIn hk9.out i (.bool true))
                have HFL := Lib.hid (hf9.out.set hin true)
                clear HT2
                go_wp2_with fail
                go_roundw
                case rel => exact ⟨t + 1, _, by go_num, hlt, HK, HFL, HD⟩
                case measure => simp [intOf]; omega
              | false =>
                generalize htb : T kb = tb at f2
                have HTA := Lib.hid hta
                have HTB := Lib.hid htb
                rw [hta] at f1
                clear hta htb
                have HD := Lib.hid (hdone.out.next HSW.out hlt HI.out (U' := setFl (setFl U i false) i tb) (by rw [HT2.out]; unfold setFl; rw [if_pos rfl]; rw [HTA.out, HTB.out]; rfl) (fun x hx => by unfold setFl; rw [if_neg hx, if_neg hx]))
                have HK := Lib.hid (Tame.Kept.setIn hk9.out i (.bool tb))
                have HFL := Lib.hid (hf9.out.set hin tb)
                clear HT2
                go_wp2_with fail
                go_roundw
                case rel => exact ⟨t + 1, _, by go_num, hlt, HK, HFL, HD⟩
                case measure => simp [intOf]; omega
    · obtain rfl : t = nl := by omega
      have HW := Lib.hid (hdone.out.whole HSW.out)
      have HFT := Lib.hid (show FlagsAt wr u t T by obtain ⟨cu, hcu, hcv⟩ := hfl.out; exact ⟨cu, hcu, fun k hk2 => by rw [← HW.out k hk2]; exact hcv k hk2⟩)
      go_wp2_with fail
      go_ret2
      exact ⟨u, rfl, by omega, HFT.out, HB.out⟩
end Go.Proofs.Ytgmlaimlcccmhaa
