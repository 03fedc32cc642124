/-
  WHICH HIERARCHIES THERE MAY BE: hier.May, with the test that it asks of each link. CONDITIONS: at most 40 ranks and 400 links.
-/
import Derived.Test.YtgmlaimlcccmhaaNJoined
namespace Go.Proofs.Ytgmlaimlcccmhaa
open Go.RowKit Go.Proofs.Ytgmlaimlcccmhaa.Tame
set_option maxHeartbeats 400000

def BadL (nr : Nat) (rk : Fn) (nl : Nat) (ls : Ls) (x : Lk) : Prop := x.m ≠ -1 ∧ ¬ JnP nr rk nl ls x
theorem joined_val {pr : Option Addr} {nr cr : Nat} {pl : Option Addr} {nl cl : Nat} {rk : Fn} {ls : Ls} {x : Lk} {w : World} {v : Bool} (hnr : nr ≤ 40) (hnl : nl ≤ 400) (ha : Vtx nr x.a) (hb : Vtx nr x.b) (hr : IntsAt w pr nr rk) (hl : LinksAt w pl nl ls) (hs : SortOK nr nl ls) (hv : bOf (JnP nr rk nl ls x) = v) :
    Calls Try.prog 21 #[HV pr nr cr pl nl cl, .agg #[.int .i64 x.a, .int .i64 x.b, .int .i64 x.w, .int .i64 x.m]] w fun e w' => e = .returned (.bool v) ∧ Below w.heap.size w w' := by
  obtain ⟨a, b, q, m⟩ := x
  obtain ⟨ka, rfl⟩ : ∃ k : Nat, a = k := ⟨a.toNat, by have := ha.1; simp only at this; omega⟩
  obtain ⟨kb, rfl⟩ : ∃ k : Nat, b = k := ⟨b.toNat, by have := hb.1; simp only at this; omega⟩
  have := joined_any pr nr cr pl nl cl rk ls ka kb q m w hnr hnl (by have := ha.2; simp only at this; omega) (by have := hb.2; simp only at this; omega) hr hl hs
  rwa [hv] at this
theorem badl_any (pr : Option Addr) (nr cr : Nat) (pl : Option Addr) (nl cl : Nat) (rk : Fn) (ls : Ls) (x : Lk) (bx : Nat) (w : World) (hnr : nr ≤ 40) (hnl : nl ≤ 400) (ha : Vtx nr x.a) (hb : Vtx nr x.b) (hbx : BoxH w bx pr nr cr pl nl cl) (hr : IntsAt w pr nr rk) (hl : LinksAt w pl nl ls) (hs : SortOK nr nl ls) :
    Calls Try.prog 20 #[.agg #[.int .i64 x.a, .int .i64 x.b, .int .i64 x.w, .int .i64 x.m], .pointer (some ⟨bx, 0, none⟩)] w fun e w' => e = .returned (.bool (bOf (BadL nr rk nl ls x))) ∧ Below w.heap.size w w' := by
  have hbl := lt_of_some hbx
  by_cases hm : x.m = -1
  · rw [bOf_no (fun h : BadL nr rk nl ls x => h.1 hm)]
    have hd : (x.m == -1) = true := beq_iff_eq.2 hm
    rw [hm]
    clear hr hl hs ha hb hm hd hbx
    go_enter Try.func20, Try.ntmps20
    go_wp2_with fail
    go_ret
    exact ⟨rfl, by go_grown⟩
  · cases hj : bOf (JnP nr rk nl ls x)
    · rw [bOf_yes (show BadL nr rk nl ls x from ⟨hm, not_bOf hj⟩)]
      have H1 := Lib.hid (fun (W : World) (h : Below w.heap.size w W) => joined_val (cr := cr) (cl := cl) hnr hnl ha hb (hr.below h) (hl.below h) hs hj)
      have hd : (x.m == -1) = false := beq_eq_false_iff_ne.2 hm
      have hd2 : (x.m != -1) = true := bne_iff_ne.2 hm
      have c0 : w.cell? ⟨bx, 0, none⟩ = some (.slice pr nr cr) := cell_of_block hbx rfl
      have c1 : w.cell? ⟨bx, 1, none⟩ = some (.slice pl nl cl) := cell_of_block hbx rfl
      clear hr hl hs ha hb hm hj hbx
      go_enter Try.func20, Try.ntmps20
      go_wp2_with fail
      refine (H1.out _ (by go_grown)).mono ?_
      rintro e w1 ⟨rfl, hb1⟩
      go_wp2_with fail
      go_ret
      exact ⟨rfl, (by go_grown : Below w.heap.size w (w.alloc (.cells #[.int .i64 x.a, .int .i64 x.b, .int .i64 x.w, .int .i64 x.m] 40))).trans (hb1.mono (by simp))⟩
    · rw [bOf_no (fun h : BadL nr rk nl ls x => h.2 (of_bOf hj))]
      have H1 := Lib.hid (fun (W : World) (h : Below w.heap.size w W) => joined_val (cr := cr) (cl := cl) hnr hnl ha hb (hr.below h) (hl.below h) hs hj)
      have hd : (x.m == -1) = false := beq_eq_false_iff_ne.2 hm
      have hd2 : (x.m != -1) = true := bne_iff_ne.2 hm
      have c0 : w.cell? ⟨bx, 0, none⟩ = some (.slice pr nr cr) := cell_of_block hbx rfl
      have c1 : w.cell? ⟨bx, 1, none⟩ = some (.slice pl nl cl) := cell_of_block hbx rfl
      clear hr hl hs ha hb hm hj hbx
      go_enter Try.func20, Try.ntmps20
      go_wp2_with fail
      refine (H1.out _ (by go_grown)).mono ?_
      rintro e w1 ⟨rfl, hb1⟩
      go_wp2_with fail
      go_ret
      exact ⟨rfl, (by go_grown : Below w.heap.size w (w.alloc (.cells #[.int .i64 x.a, .int .i64 x.b, .int .i64 x.w, .int .i64 x.m] 40))).trans (hb1.mono (by simp))⟩

def IdxPost (w : World) (P : Prop) (e : Ending) (w' : World) : Prop := ∃ r : Int, e = .returned (.int .i64 r) ∧ (0 ≤ r ↔ P) ∧ Below w.heap.size w w'
def AnyBad (nr : Nat) (rk : Fn) (nl : Nat) (ls : Ls) : Prop := ∃ i, i < nl ∧ BadL nr rk nl ls (ls i)
theorem indexfunc_any (pr : Option Addr) (nr cr : Nat) (pl : Option Addr) (nl cl : Nat) (rk : Fn) (ls : Ls) (bx : Nat) (w : World) (hnr : nr ≤ 40) (hnl : nl ≤ 400) (hbx : BoxH w bx pr nr cr pl nl cl) (hr : IntsAt w pr nr rk) (hl : LinksAt w pl nl ls) (hs : SortOK nr nl ls) :
    Calls Try.prog 28 #[.slice pl nl cl, .func (.func 20) #[] #[.pointer (some ⟨bx, 0, none⟩)]] w (IdxPost w (AnyBad nr rk nl ls)) := by
  have HL := Lib.hid hl
  have H1 := Lib.hid (fun (W : World) (h : Below w.heap.size w W) (x : Lk) (h1 : Vtx nr x.a) (h2 : Vtx nr x.b) => badl_any pr nr cr pl nl cl rk ls x bx W hnr hnl h1 h2 (hbx.below h) (hr.below h) (hl.below h) hs)
  have HS := Lib.hid hs
  clear hl hr hs hbx
  go_enter Try.func28, Try.ntmps28
  go_wp2_with fail
  go_loopw [8] (fun s8 wr => ∃ i : Nat, s8 = .int .i64 i ∧ i ≤ nl ∧ Below w.heap.size w wr ∧ Hid (∀ j, j < i → ¬ BadL nr rk nl ls (ls j))) (fun s8 _ => nl - (intOf s8).toNat)
  case atStart => exact ⟨0, rfl, by omega, Below.refl _ _, Lib.hid (fun j hj => absurd hj (Nat.not_lt_zero _))⟩
  case round =>
    obtain ⟨i, rfl, hi, hb, hno⟩ := hrel
    by_cases hlt : i < nl
    · obtain ⟨b, off, rfl, hc⟩ := HL.out.below hb (by omega)
      have hci := hc i hlt
      clear hc
      have hok := HS.out i hlt
      have H2 := Lib.hid (H1.out wr hb (ls i) hok.1 hok.2.1)
      have H3 := Lib.hid (show bOf (BadL nr rk nl ls (ls i)) = bOf (BadL nr rk nl ls (ls i)) from rfl)
      have H4 := Lib.hid (show BadL nr rk nl ls (ls i) ↔ bOf (BadL nr rk nl ls (ls i)) = true from ⟨bOf_yes, of_bOf⟩)
      clear hok
      generalize bOf (BadL nr rk nl ls (ls i)) = v at H2 H3 H4
      generalize hA : ls i = A at hci H2
      have HA := Lib.hid hA
      clear hA H3
      obtain ⟨c0, c1, c2, c3⟩ := hci
      cases v with
      | true =>
        have HY := Lib.hid (show AnyBad nr rk nl ls from ⟨i, hlt, H4.out.2 rfl⟩)
        go_wp2_with fail
        refine (H2.out).mono ?_
        rintro e w1 ⟨rfl, hb1⟩
        have hb2 := hb.trans (hb1.mono hb.size)
        clear hb1
        go_wp2_with fail
        go_ret
        exact ⟨i, rfl, ⟨fun _ => HY.out, fun _ => Int.natCast_nonneg _⟩, hb2⟩
      | false =>
        have HNO := Lib.hid (fun j (hj : j < i + 1) (hbad : BadL nr rk nl ls (ls j)) => show False by
          by_cases e : j = i
          · subst e; have := H4.out.1 hbad; cases this
          · exact hno.out j (by omega) hbad)
        go_wp2_with fail
        refine (H2.out).mono ?_
        rintro e w1 ⟨rfl, hb1⟩
        have hb2 := hb.trans (hb1.mono hb.size)
        clear hb1 c0 c1 c2 c3
        go_wp2_with fail
        go_roundw
        case rel => exact ⟨i + 1, by go_num, hlt, hb2, HNO⟩
        case measure => simp [intOf]; omega
    · obtain rfl : i = nl := by omega
      have HNO := Lib.hid (show ¬ AnyBad nr rk i ls from fun ⟨j, hj, h⟩ => hno.out j hj h)
      go_wp2_with fail
      go_ret
      exact ⟨-1, rfl, ⟨fun h => absurd h (by omega), fun h => absurd h HNO.out⟩, hb⟩
theorem contains_any (pr : Option Addr) (nr cr : Nat) (pl : Option Addr) (nl cl : Nat) (rk : Fn) (ls : Ls) (bx : Nat) (w : World) (hnr : nr ≤ 40) (hnl : nl ≤ 400) (hbx : BoxH w bx pr nr cr pl nl cl) (hr : IntsAt w pr nr rk) (hl : LinksAt w pl nl ls) (hs : SortOK nr nl ls) :
    Calls Try.prog 19 #[.slice pl nl cl, .func (.func 20) #[] #[.pointer (some ⟨bx, 0, none⟩)]] w fun e w' => e = .returned (.bool (bOf (AnyBad nr rk nl ls))) ∧ Below w.heap.size w w' := by
  have H1 := Lib.hid (indexfunc_any pr nr cr pl nl cl rk ls bx w hnr hnl hbx hr hl hs)
  clear hbx hr hl hs
  generalize hv : bOf (AnyBad nr rk nl ls) = v
  have HV := Lib.hid hv
  clear hv
  go_enter Try.func19, Try.ntmps19
  go_wp2_with fail
  refine (H1.out).mono ?_
  rintro e w1 ⟨r, rfl, hr, hb1⟩
  have HQ := Lib.hid hr
  clear hr
  by_cases h0 : 0 ≤ r
  · have HV2 := Lib.hid (show true = v by rw [← HV.out, bOf_yes (HQ.out.1 h0)])
    go_wp2_with fail
    go_ret
    exact ⟨ret_bool HV2.out, hb1⟩
  · have HV2 := Lib.hid (show false = v by rw [← HV.out, bOf_no (fun h => h0 (HQ.out.2 h))])
    have hd : decide (0 ≤ r) = false := decide_eq_false h0
    go_wp2_with fail
    go_ret
    exact ⟨ret_bool HV2.out, hb1⟩

def MayP (nr : Nat) (rk : Fn) (nl : Nat) (ls : Ls) : Prop := RanksOK nr rk ∧ SortOK nr nl ls ∧ ¬ AnyBad nr rk nl ls
theorem ranks_val {p : Option Addr} {n cap : Nat} {rk : Fn} {w : World} {v : Bool} (hn : n ≤ 40) (hr : IntsAt w p n rk) (hv : bOf (RanksOK n rk) = v) :
    Calls Try.prog 17 #[.slice p n cap] w fun e w' => e = .returned (.bool v) ∧ Below w.heap.size w w' := by
  have := ranks_any p n cap rk w hn hr
  rwa [hv] at this
theorem sorted_val {pr : Option Addr} {nr cr : Nat} {pl : Option Addr} {nl cl : Nat} {ls : Ls} {w : World} {v : Bool} (hnl : nl ≤ 400) (hl : LinksAt w pl nl ls) (hv : bOf (SortOK nr nl ls) = v) :
    Calls Try.prog 18 #[HV pr nr cr pl nl cl] w fun e w' => e = .returned (.bool v) ∧ Below w.heap.size w w' := by
  have := sorted_any pr nr cr pl nl cl ls w hnl hl
  rwa [hv] at this
theorem contains_val {pr : Option Addr} {nr cr : Nat} {pl : Option Addr} {nl cl : Nat} {rk : Fn} {ls : Ls} {bx : Nat} {w : World} {v : Bool} (hnr : nr ≤ 40) (hnl : nl ≤ 400) (hbx : BoxH w bx pr nr cr pl nl cl) (hr : IntsAt w pr nr rk) (hl : LinksAt w pl nl ls) (hs : SortOK nr nl ls) (hv : bOf (AnyBad nr rk nl ls) = v) :
    Calls Try.prog 19 #[.slice pl nl cl, .func (.func 20) #[] #[.pointer (some ⟨bx, 0, none⟩)]] w fun e w' => e = .returned (.bool v) ∧ Below w.heap.size w w' := by
  have := contains_any pr nr cr pl nl cl rk ls bx w hnr hnl hbx hr hl hs
  rwa [hv] at this

set_option maxRecDepth 100000 in
set_option maxHeartbeats 1000000 in
theorem may_any (pr : Option Addr) (nr cr : Nat) (pl : Option Addr) (nl cl : Nat) (rk : Fn) (ls : Ls) (w : World) (hnr : nr ≤ 40) (hnl : nl ≤ 400) (hh : HAt w pr nr rk pl nl ls) :
    Calls Try.prog 12 #[HV pr nr cr pl nl cl] w fun e w' => e = .returned (.bool (bOf (MayP nr rk nl ls))) ∧ Below w.heap.size w w' := by
  have HH := Lib.hid hh
  clear hh
  generalize hv : bOf (MayP nr rk nl ls) = v
  have HV := Lib.hid hv
  clear hv
  go_enter Try.func12, Try.ntmps12
  go_upto_region 1 with (fail)
  refine plain_hid (fun W hW ops hops => ?_)
  have hbW : Below w.heap.size w W := by rw [hW]; go_grown
  have gB : BoxH W w.heap.size pr nr cr pl nl cl := by rw [hW]; exact heap_alloc_is rfl
  have hBs : w.heap.size < W.heap.size := lt_of_some gB
  clear hW
  have o4 : (ops[4]?).bind (fun x => x.dst) = some 7 := by rw [hops]; rfl
  have o10 : (ops[10]?).bind (fun x => x.dst) = some 13 := by rw [hops]; rfl
  have o16 : (ops[16]?).bind (fun x => x.dst) = some 19 := by rw [hops]; rfl
  clear hops
  have f0 : ∀ xl : Later W [], xl.w.cell? ⟨w.heap.size, 0, none⟩ = some (.slice pr nr cr) := fun xl => cell_of_block (Later.at0 gB xl) rfl
  have f1 : ∀ xl : Later W [], xl.w.cell? ⟨w.heap.size, 1, none⟩ = some (.slice pl nl cl) := fun xl => cell_of_block (Later.at0 gB xl) rfl
  have d1 : decide ((4000 : Int) < (nr : Int)) = false := decide_eq_false (by omega)
  have d2 : decide ((200000 : Int) < (nl : Int)) = false := decide_eq_false (by omega)
  have hlat := Lib.hid (fun (xl : Later W []) => hbW.trans ((xl.h.below (Nat.le_refl _) (fun d hd => by cases hd) : Below W.heap.size W xl.w).mono hbW.size))
  cases hR : bOf (RanksOK nr rk)
  · have HR := Lib.hid hR
    have HV2 := Lib.hid (show false = v by rw [← HV.out, bOf_no (fun h : MayP nr rk nl ls => not_bOf hR h.1)])
    clear hR
    repeat (refine walkT_step (fun K hK => ?_); go_simp; first | (refine hK _ _ ?_; clear hK K) | (refine ⟨_, fun xl => ranks_val hnr (HH.out.r.below (hlat.out xl)) HR.out, ?_⟩; refine hK _ _ ?_; clear hK K))
    refine walkT_nil ?_
    intro w5 hc5
    have hb5 := hbW.trans (hc5.below.mono hbW.size)
    clear hc5 o4 o10 o16 f0 f1 d1 d2 gB hlat
    go_wp2_with fail
    go_ret
    exact ⟨ret_bool HV2.out, hb5⟩
  · have HR := Lib.hid hR
    clear hR
    cases hS : bOf (SortOK nr nl ls)
    · have HS := Lib.hid hS
      have HV2 := Lib.hid (show false = v by rw [← HV.out, bOf_no (fun h : MayP nr rk nl ls => not_bOf hS h.2.1)])
      clear hS
      repeat (refine walkT_step (fun K hK => ?_); go_simp; first | (refine hK _ _ ?_; clear hK K) | (refine ⟨_, fun xl => ranks_val hnr (HH.out.r.below (hlat.out xl)) HR.out, ?_⟩; refine hK _ _ ?_; clear hK K) | (refine ⟨_, fun xl => sorted_val hnl (HH.out.l.below (hlat.out xl)) HS.out, ?_⟩; refine hK _ _ ?_; clear hK K))
      refine walkT_nil ?_
      intro w5 hc5
      have hb5 := hbW.trans (hc5.below.mono hbW.size)
      clear hc5 o4 o10 o16 f0 f1 d1 d2 gB hlat
      go_wp2_with fail
      go_ret
      exact ⟨ret_bool HV2.out, hb5⟩
    · have HS := Lib.hid hS
      clear hS
      repeat (refine walkT_step (fun K hK => ?_); go_simp; first | (refine hK _ _ ?_; clear hK K) | (refine ⟨_, fun xl => ranks_val hnr (HH.out.r.below (hlat.out xl)) HR.out, ?_⟩; refine hK _ _ ?_; clear hK K) | (refine ⟨_, fun xl => sorted_val hnl (HH.out.l.below (hlat.out xl)) HS.out, ?_⟩; refine hK _ _ ?_; clear hK K))
      refine walkT_nil ?_
      intro w5 hc5
      have hb5 := hbW.trans (hc5.below.mono hbW.size)
      have gB5 : BoxH w5 w.heap.size pr nr cr pl nl cl := hc5.at0 gB
      clear hc5 o4 o10 o16 f0 f1 d1 d2 gB hlat
      have f0 : w5.cell? ⟨w.heap.size, 0, none⟩ = some (.slice pr nr cr) := cell_of_block gB5 rfl
      have f1 : w5.cell? ⟨w.heap.size, 1, none⟩ = some (.slice pl nl cl) := cell_of_block gB5 rfl
      have GB5 := Lib.hid gB5
      clear gB5
      cases hA : bOf (AnyBad nr rk nl ls)
      · have HA := Lib.hid hA
        have HV2 := Lib.hid (show true = v by rw [← HV.out, bOf_yes (show MayP nr rk nl ls from ⟨of_bOf HR.out, of_bOf HS.out, not_bOf hA⟩)])
        clear hA
        go_wp2_with fail
        refine (contains_val hnr hnl GB5.out (HH.out.r.below hb5) (HH.out.l.below hb5) (of_bOf HS.out) HA.out).mono ?_
        rintro e w6 ⟨rfl, hb6⟩
        go_wp2_with fail
        go_ret
        exact ⟨ret_bool HV2.out, hb5.trans (hb6.mono hb5.size)⟩
      · have HA := Lib.hid hA
        have HV2 := Lib.hid (show false = v by rw [← HV.out, bOf_no (fun h : MayP nr rk nl ls => h.2.2 (of_bOf hA))])
        clear hA
        go_wp2_with fail
        refine (contains_val hnr hnl GB5.out (HH.out.r.below hb5) (HH.out.l.below hb5) (of_bOf HS.out) HA.out).mono ?_
        rintro e w6 ⟨rfl, hb6⟩
        go_wp2_with fail
        go_ret
        exact ⟨ret_bool HV2.out, hb5.trans (hb6.mono hb5.size)⟩
end Go.Proofs.Ytgmlaimlcccmhaa
