/-
  HOW MANY LINKS ARE TAINTED, AND WHETHER A WAY IS NOT: Count, Clean. CONDITIONS: small hierarchies and ways.
-/
import Derived.Test.YtgmlaimlcccmhaaNLinks
namespace Go.Proofs.Ytgmlaimlcccmhaa
open Go.RowKit Go.Proofs.Ytgmlaimlcccmhaa.Tame
set_option maxHeartbeats 400000

def numT (T : Fl) : Nat → Nat
  | 0 => 0
  | n + 1 => numT T n + (if T n then 1 else 0)
theorem numT_le (T : Fl) : ∀ n, numT T n ≤ n
  | 0 => Nat.le_refl _
  | n + 1 => by
    have := numT_le T n
    unfold numT
    split <;> omega
theorem FlagsAt.cell {w : World} {u n i : Nat} {U : Fl} (h : FlagsAt w u n U) (hi : i < n) : w.cell? ⟨u, i, none⟩ = some (.bool (U i)) := by
  obtain ⟨cu, h1, h2⟩ := h
  exact cell_of_block h1 (h2 i hi)
theorem ret_ii {a b x : Int} (h : a = b) : Ending.returned (.tuple #[.int .i64 a, .int .i64 x]) = .returned (.tuple #[.int .i64 b, .int .i64 x]) := by rw [h]
def CountNo (w : World) (e : Ending) (w' : World) : Prop := e = .returned (.tuple #[.int .i64 0, .int .i64 1]) ∧ Below w.heap.size w w'
def CountYes (w : World) (k : Nat) (e : Ending) (w' : World) : Prop := e = .returned (.tuple #[.int .i64 k, .int .i64 0]) ∧ Below w.heap.size w w'
theorem count_no (pr : Option Addr) (nr cr : Nat) (pl : Option Addr) (nl cl : Nat) (pc : Option Addr) (nc cc : Nat) (rk : Fn) (ls : Ls) (w : World) (hnr : nr ≤ 40) (hnl : nl ≤ 400) (hh : HAt w pr nr rk pl nl ls) (hno : ¬ (MayP nr rk nl ls ∧ nc = nr)) :
    Calls Try.prog 7 #[HV pr nr cr pl nl cl, .slice pc nc cc] w (CountNo w) := by
  have H1 := Lib.hid (fun (W : World) (h : Below w.heap.size w W) => links_no pr nr cr pl nl cl pc nc cc rk ls W hnr hnl (hh.below h) hno)
  clear hh hno
  go_enter Try.func7, Try.ntmps7
  go_wp2_with fail
  refine (H1.out _ (by go_grown)).mono ?_
  rintro e w1 ⟨rfl, hb1⟩
  have hw1 := (by go_grown : Below w.heap.size w (w.alloc (.cells #[.slice pr nr cr, .slice pl nl cl] 25))).trans (hb1.mono (by simp))
  clear hb1
  go_wp2_with fail
  go_loop [8, 19] (fun s8 s19 => s8 = .int .i64 0 ∧ s19 = .int .i64 0) (fun _ _ => 0)
  case atStart => exact ⟨rfl, rfl⟩
  case round =>
    obtain ⟨rfl, rfl⟩ := hrel
    go_wp2_with fail
    go_ret2
    exact ⟨rfl, hw1⟩
set_option maxRecDepth 100000 in
theorem count_yes (pr : Option Addr) (nr cr : Nat) (pl : Option Addr) (nl cl : Nat) (pc : Option Addr) (cc : Nat) (rk : Fn) (ls : Ls) (cf : Fl) (w : World) (hnr : nr ≤ 40) (hnl : nl ≤ 400) (hh : HAt w pr nr rk pl nl ls) (hc : BoolsAt w pc nr cf) (hM : MayP nr rk nl ls) :
    Calls Try.prog 7 #[HV pr nr cr pl nl cl, .slice pc nr cc] w (CountYes w (numT (tnF cf ls nl nr) nl)) := by
  have H1 := Lib.hid (fun (W : World) (h : Below w.heap.size w W) => links_yes pr nr cr pl nl cl pc cc rk ls cf W hnr hnl (hh.below h) (hc.below h) hM)
  clear hh hc hM
  generalize tnF cf ls nl nr = T at H1 ⊢
  go_enter Try.func7, Try.ntmps7
  go_wp2_with fail
  refine (H1.out _ (by go_grown)).mono ?_
  rintro e w1 ⟨u, rfl, hu, hfl, hb1⟩
  have hw1 := (by go_grown : Below w.heap.size w (w.alloc (.cells #[.slice pr nr cr, .slice pl nl cl] 25))).trans (hb1.mono (by simp))
  have HFL := Lib.hid hfl
  clear hb1 hfl hu
  go_wp2_with fail
  go_loop [8, 19] (fun s8 s19 => ∃ (i k : Nat), s8 = .int .i64 k ∧ s19 = .int .i64 i ∧ i ≤ nl ∧ k ≤ nl ∧ Hid (numT T i = k)) (fun _ s19 => nl - (intOf s19).toNat)
  case atStart => exact ⟨0, 0, rfl, rfl, by omega, by omega, Lib.hid rfl⟩
  case round =>
    obtain ⟨i, k, rfl, rfl, hi, hk, hn⟩ := hrel
    by_cases hlt : i < nl
    · have c0 := HFL.out.cell hlt
      have hle := numT_le T (i + 1)
      have hstep : numT T (i + 1) = k + (if T i then 1 else 0) := by rw [← hn.out]; rfl
      cases hT : T i
      · rw [hT] at c0 hstep
        have HN := Lib.hid (show numT T (i + 1) = k by rw [hstep]; simp)
        clear hstep hT hle
        go_wp2_with fail
        go_round
        case rel => exact ⟨i + 1, k, rfl, by go_num, hlt, hk, HN⟩
        case measure => simp [intOf]; omega
      · rw [hT] at c0 hstep
        have HN := Lib.hid (show numT T (i + 1) = k + 1 by rw [hstep]; simp)
        have hk1 : k + 1 ≤ nl := by rw [HN.out] at hle; omega
        clear hstep hT hle
        go_wp2_with fail
        go_round
        case rel => exact ⟨i + 1, k + 1, by go_num, by go_num, hlt, hk1, HN⟩
        case measure => simp [intOf]; omega
    · obtain rfl : i = nl := by omega
      have HK := Lib.hid hn.out
      go_wp2_with fail
      go_ret2
      exact ⟨ret_ii (by rw [HK.out]), hw1⟩

/-- What is asked of the i-th vertex of a way. -/
def ClnOK (nr nl : Nat) (ls : Ls) (cf T : Fl) (lf : Fn) (i : Nat) : Prop := Vtx nr (lf i) ∧ cf (lf i).toNat = false ∧ (0 < i → ∃ k : Nat, lnkR ls (lf (i - 1)) (lf i) nl = (k : Int) ∧ T k = false)
def ClnP (nr nl : Nat) (ls : Ls) (cf T : Fl) (n : Nat) (lf : Fn) : Prop := 0 < n ∧ ∀ i, i < n → ClnOK nr nl ls cf T lf i
def CleanNo (w : World) (e : Ending) (w' : World) : Prop := e = .returned (.tuple #[.bool false, .int .i64 1]) ∧ Below w.heap.size w w'
def CleanYes (w : World) (v : Bool) (e : Ending) (w' : World) : Prop := e = .returned (.tuple #[.bool v, .int .i64 0]) ∧ Below w.heap.size w w'
theorem clean_no (pr : Option Addr) (nr cr : Nat) (pl : Option Addr) (nl cl : Nat) (pc : Option Addr) (nc cc : Nat) (pw : Option Addr) (nw cw : Nat) (rk : Fn) (ls : Ls) (w : World) (hnr : nr ≤ 40) (hnl : nl ≤ 400) (hh : HAt w pr nr rk pl nl ls) (hno : ¬ (MayP nr rk nl ls ∧ nc = nr)) :
    Calls Try.prog 8 #[HV pr nr cr pl nl cl, .slice pc nc cc, .slice pw nw cw] w (CleanNo w) := by
  have H1 := Lib.hid (fun (W : World) (h : Below w.heap.size w W) => links_no pr nr cr pl nl cl pc nc cc rk ls W hnr hnl (hh.below h) hno)
  clear hh hno
  go_enter Try.func8, Try.ntmps8
  go_wp2_with fail
  refine (H1.out _ (by go_grown)).mono ?_
  rintro e w1 ⟨rfl, hb1⟩
  have hw1 := (by go_grown : Below w.heap.size w (w.alloc (.cells #[.slice pr nr cr, .slice pl nl cl] 25))).trans (hb1.mono (by simp))
  clear hb1
  go_wp2_with fail
  go_ret2
  exact ⟨rfl, hw1⟩
theorem ret_bi {a b : Bool} {x : Int} (h : a = b) : Ending.returned (.tuple #[.bool a, .int .i64 x]) = .returned (.tuple #[.bool b, .int .i64 x]) := by rw [h]
set_option maxRecDepth 100000 in
set_option maxHeartbeats 2000000 in
theorem clean_yes (pr : Option Addr) (nr cr : Nat) (pl : Option Addr) (nl cl : Nat) (pc : Option Addr) (cc : Nat) (pw : Option Addr) (nw cw : Nat) (rk : Fn) (ls : Ls) (cf : Fl) (lf : Fn) (w : World) (hnr : nr ≤ 40) (hnl : nl ≤ 400) (hnw : nw ≤ 40) (hh : HAt w pr nr rk pl nl ls) (hc : BoolsAt w pc nr cf) (hlw : IntsAt w pw nw lf) (hM : MayP nr rk nl ls) :
    Calls Try.prog 8 #[HV pr nr cr pl nl cl, .slice pc nr cc, .slice pw nw cw] w (CleanYes w (bOf (ClnP nr nl ls cf (tnF cf ls nl nr) nw lf))) := by
  have H1 := Lib.hid (fun (W : World) (h : Below w.heap.size w W) => links_yes pr nr cr pl nl cl pc cc rk ls cf W hnr hnl (hh.below h) (hc.below h) hM)
  have HL := Lib.hid hh.l
  have HC := Lib.hid hc
  have HW := Lib.hid hlw
  have HE := Lib.hid (hM.2.1.ends (show nr ≤ 1000000 by omega))
  have HRI := Lib.hid hM.2.1.rise
  clear hh hc hM hlw
  generalize tnF cf ls nl nr = T at H1 ⊢
  generalize hv : bOf (ClnP nr nl ls cf T nw lf) = v
  have HV := Lib.hid hv
  clear hv
  go_enter Try.func8, Try.ntmps8
  go_wp2_with fail
  refine (H1.out _ (by go_grown)).mono ?_
  rintro e w1 ⟨u, rfl, hu, hfl, hb1⟩
  have hw1 := (by go_grown : Below w.heap.size w (w.alloc (.cells #[.slice pr nr cr, .slice pl nl cl] 25))).trans (hb1.mono (by simp))
  have HFL := Lib.hid hfl
  have gB : BoxH w1 w.heap.size pr nr cr pl nl cl := BoxH.below (heap_alloc_is rfl) hb1
  have c0 : w1.cell? ⟨w.heap.size, 0, none⟩ = some (.slice pr nr cr) := cell_of_block gB rfl
  have c1 : w1.cell? ⟨w.heap.size, 1, none⟩ = some (.slice pl nl cl) := cell_of_block gB rfl
  clear hb1 hfl hu gB H1
  go_wp2_with fail
  refine (places_any _ _ _ _ _ _ ls _ hnl (HL.out.below hw1) HE.out).mono ?_
  rintro e w2 ⟨bm, rfl, hbm, hb2, hmap⟩
  have HMAP := Lib.hid hmap
  have HFL2 := Lib.hid (HFL.out.below hb2)
  have hw2 := hw1.trans (hb2.mono hw1.size)
  have HW2 := Lib.hid (HW.out.below hw2)
  have HC2 := Lib.hid (HC.out.below hw2)
  clear hmap hb2 hw1 HFL c0 c1 HW HC HL hbm
  go_wp2_with fail
  go_loop [28] (fun s28 => ∃ i : Nat, s28 = .int .i64 i ∧ i ≤ nw ∧ Hid (∀ j, j < i → ClnOK nr nl ls cf T lf j)) (fun s28 => nw - (intOf s28).toNat)
  case atStart => exact ⟨0, rfl, by omega, Lib.hid (fun j hj => absurd hj (Nat.not_lt_zero _))⟩
  case round =>
    obtain ⟨i, rfl, hi, hok⟩ := hrel
    by_cases hlt : i < nw
    · obtain ⟨b, off, rfl, hcw⟩ := HW2.out (by omega)
      have c0 := hcw i hlt
      generalize hx : lf i = x at c0
      have HX := Lib.hid hx
      clear hx
      have z1 : (i : Int) < (nw : Int) := by omega
      have HNV := Lib.hid (fun (h : ¬ ClnOK nr nl ls cf T lf i) => show false = v by rw [← HV.out, bOf_no (fun hP : ClnP nr nl ls cf T nw lf => h (hP.2 i hlt))])
      by_cases h1 : 0 ≤ x
      · by_cases h2 : x < (nr : Int)
        · obtain ⟨x, rfl⟩ : ∃ k : Nat, x = k := ⟨x.toNat, by omega⟩
          obtain ⟨bc, oc, rfl, hcc⟩ := HC2.out (by omega)
          have c1 := hcc x (by omega)
          clear hcc
          cases hcx : cf x
          · rw [hcx] at c1
            have HCX := Lib.hid hcx
            clear hcx
            cases i with
            | zero =>
              clear hcw
              have c2 : w2.cell? ⟨b, off, none⟩ = some (.int .i64 x) := c0
              clear c0
              have HOK := Lib.hid (fun j (hj : j < 0 + 1) => show ClnOK nr nl ls cf T lf j by
                have e : j = 0 := by omega
                subst e
                unfold ClnOK
                rw [HX.out, Int.toNat_natCast]
                exact ⟨⟨h1, h2⟩, HCX.out, fun h => absurd h (Nat.lt_irrefl _)⟩)
              go_wp2_with fail
              go_round
              case rel => exact ⟨1, rfl, hlt, HOK⟩
              case measure => simp [intOf]; omega
            | succ ip =>
              have c2 := hcw ip (by omega)
              clear hcw
              have hop := hok.out ip (by omega)
              generalize hy : lf ip = y at c2
              have HY := Lib.hid hy
              clear hy
              unfold ClnOK Vtx at hop
              rw [HY.out] at hop
              obtain ⟨⟨g0, g1⟩, _, _⟩ := hop
              obtain ⟨y, rfl⟩ : ∃ k : Nat, y = k := ⟨y.toNat, by omega⟩
              have z2 : ¬ ((ip : Int) + 1 = 0) := by omega
              have z3 : ((ip : Int) + 1 == 0) = false := beq_eq_false_iff_ne.2 z2
              have hwp : IntKind.i64.wrap (ip : Int) = (ip : Int) := IntWalk.i64_in _ (by omega)
              have z4 : (ip : Int) < (nw : Int) := by omega
              clear z2
              have hlo := MapAt.look_ok HMAP.out HE.out HRI.out (x := (y : Int)) (y := (x : Int)) (by omega) (by omega)
              rcases hlo with ⟨hl1, cc2, hrun⟩ | ⟨k, hk, hkl, hl1, hrun⟩
              · have HV2 := Lib.hid (HNV.out (fun h => by
                  obtain ⟨_, _, h3⟩ := h
                  obtain ⟨k, hk1, _⟩ := h3 (by omega)
                  rw [HX.out, Nat.add_sub_cancel, HY.out, hl1] at hk1
                  omega))
                clear hl1
                go_wp2_with fail
                go_ret2
                exact ⟨ret_bi HV2.out, hw2⟩
              · have c3 := HFL2.out.cell hk
                have z5 : (k : Int) < (nl : Int) := by omega
                have z6 : (0 : Int) ≤ (k : Int) := Int.natCast_nonneg _
                cases hT : T k
                · rw [hT] at c3
                  have HOK := Lib.hid (fun j (hj : j < ip + 1 + 1) => show ClnOK nr nl ls cf T lf j by
                    by_cases e : j = ip + 1
                    · subst e
                      unfold ClnOK
                      rw [HX.out, Int.toNat_natCast, Nat.add_sub_cancel, HY.out]
                      exact ⟨⟨h1, h2⟩, HCX.out, fun _ => ⟨k, hl1, hT⟩⟩
                    · exact hok.out j (by omega))
                  clear hl1 hT hkl
                  go_wp2_with fail
                  go_round
                  case rel => exact ⟨ip + 1 + 1, by go_num, hlt, HOK⟩
                  case measure => simp [intOf]; omega
                · rw [hT] at c3
                  have HV2 := Lib.hid (HNV.out (fun h => by
                    obtain ⟨_, _, h3⟩ := h
                    obtain ⟨k2, hk1, hk2⟩ := h3 (by omega)
                    rw [HX.out, Nat.add_sub_cancel, HY.out, hl1] at hk1
                    have e : k = k2 := by omega
                    rw [← e, hT] at hk2; cases hk2))
                  clear hl1 hT hkl
                  go_wp2_with fail
                  go_ret2
                  exact ⟨ret_bi HV2.out, hw2⟩
          · rw [hcx] at c1
            have HV2 := Lib.hid (HNV.out (fun h => by
              have := h.2.1
              rw [HX.out, Int.toNat_natCast, hcx] at this; cases this))
            clear hcx hcw
            go_wp2_with fail
            go_ret2
            exact ⟨ret_bi HV2.out, hw2⟩
        · have HV2 := Lib.hid (HNV.out (fun h => by have := h.1.2; rw [HX.out] at this; exact h2 this))
          have d2 : decide ((nr : Int) ≤ x) = true := decide_eq_true (by omega)
          clear hcw
          go_wp2_with fail
          go_ret2
          exact ⟨ret_bi HV2.out, hw2⟩
      · have HV2 := Lib.hid (HNV.out (fun h => by have := h.1.1; rw [HX.out] at this; exact h1 this))
        clear hcw
        go_wp2_with fail
        go_ret2
        exact ⟨ret_bi HV2.out, hw2⟩
    · obtain rfl : i = nw := by omega
      by_cases h0 : 0 < i
      · have HV2 := Lib.hid (show true = v by rw [← HV.out, bOf_yes (show ClnP nr nl ls cf T i lf from ⟨h0, hok.out⟩)])
        have d0 : decide ((0 : Int) < (i : Int)) = true := decide_eq_true (by omega)
        go_wp2_with fail
        go_ret2
        exact ⟨ret_bi HV2.out, hw2⟩
      · have HV2 := Lib.hid (show false = v by rw [← HV.out, bOf_no (fun hP : ClnP nr nl ls cf T i lf => h0 hP.1)])
        obtain rfl : i = 0 := by omega
        go_wp2_with fail
        go_ret2
        exact ⟨ret_bi HV2.out, hw2⟩
end Go.Proofs.Ytgmlaimlcccmhaa
