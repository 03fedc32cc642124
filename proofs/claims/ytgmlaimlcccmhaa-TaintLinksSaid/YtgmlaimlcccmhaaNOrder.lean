/-
  THE ORDER IN WHICH LINKS ARE LOOKED AT: order$1, order. CONDITIONS: each link's Mid is none or a vertex.
-/
import Derived.Test.YtgmlaimlcccmhaaNMay
import Derived.Test.YtgmlaimlcccmhaaISort8
import Derived.OwnWalk
import Derived.WalkSpells
import Derived.Lib.BufferMore
import Derived.Deep.AppendLies
namespace Go.Proofs.Ytgmlaimlcccmhaa
open Go.RowKit Go.Proofs.Ytgmlaimlcccmhaa.Tame
set_option maxHeartbeats 400000

def MidOK (nr nl : Nat) (ls : Ls) : Prop := ∀ i, i < nl → (ls i).m = -1 ∨ Vtx nr (ls i).m
theorem MayP.mid {nr : Nat} {rk : Fn} {nl : Nat} {ls : Ls} (h : MayP nr rk nl ls) : MidOK nr nl ls := fun i hi => by
  by_cases hm : (ls i).m = -1
  · exact .inl hm
  · right
    apply Classical.byContradiction
    intro hn
    exact h.2.2 ⟨i, hi, hm, fun hj => hn hj.1⟩
def keyL (rk : Fn) (ls : Ls) (x : Int) : Int := midOf rk (ls x.toNat)
theorem compare_low (x y : Int) (w : World) : Calls Try.prog 24 #[.int .i64 x, .int .i64 y] w fun e w' => e = .returned (.int .i64 (cmpI x y)) ∧ Below w.heap.size w w' :=
  (compare_any x y w).mono fun _ _ ⟨h1, h2⟩ => ⟨h1, h2 ▸ Below.refl _ _⟩
theorem ordcmp_any (pr : Option Addr) (nr cr : Nat) (pl : Option Addr) (nl cl : Nat) (rk : Fn) (ls : Ls) (bx x y : Nat) (w : World) (hnr : nr ≤ 40) (hnl : nl ≤ 400) (hx : x < nl) (hy : y < nl) (hbx : BoxH w bx pr nr cr pl nl cl) (hh : HAt w pr nr rk pl nl ls) (hm : MidOK nr nl ls) :
    Calls Try.prog 23 #[.int .i64 x, .int .i64 y, .pointer (some ⟨bx, 0, none⟩)] w fun e w' => e = .returned (.int .i64 (cmpI (midOf rk (ls x)) (midOf rk (ls y)))) ∧ Below w.heap.size w w' := by
  obtain ⟨b, off, rfl, hc⟩ := hh.l (by omega)
  have hcx := hc x hx
  have hcy := hc y hy
  have hmx := hm x hx
  have hmy := hm y hy
  have HR := Lib.hid hh.r
  clear hc hm hh
  generalize ls x = A at hcx hmx
  generalize ls y = B at hcy hmy
  have HMX := Lib.hid hmx
  have HMY := Lib.hid hmy
  have HBX := Lib.hid hbx
  have hbl := lt_of_some hbx
  clear hmx hmy hbx
  have z1 : (x : Int) < (nl : Int) := by omega
  have z2 : (y : Int) < (nl : Int) := by omega
  have z3 : (0 : Int) ≤ (x : Int) := Int.natCast_nonneg _
  have z4 : (0 : Int) ≤ (y : Int) := Int.natCast_nonneg _
  generalize hpp : midOf rk A = p
  generalize hqq : midOf rk B = q
  have HP := Lib.hid hpp
  have HQ := Lib.hid hqq
  clear hpp hqq
  go_enter Try.func23, Try.ntmps23
  go_wp2_with fail
  refine draws_hid (by kernel_rfl) (by kernel_rfl) (by kernel_rfl) (fun W hW ops hops => ?_)
  subst hW
  clear hops
  have f0 : ∀ xl : Later W [], xl.w.cell? ⟨bx, 0, none⟩ = some (.slice pr nr cr) := fun xl => cell_of_block (Later.at0 HBX.out xl) rfl
  have f1 : ∀ xl : Later W [], xl.w.cell? ⟨bx, 1, none⟩ = some (.slice (some ⟨b, off, none⟩) nl cl) := fun xl => cell_of_block (Later.at0 HBX.out xl) rfl
  have k0 : ∀ xl : Later W [], xl.w.cell? ⟨b, off + x * 4, none⟩ = some (.int .i64 A.a) := cellLater hcx.1
  have k1 : ∀ xl : Later W [], xl.w.cell? ⟨b, off + x * 4 + 1, none⟩ = some (.int .i64 A.b) := cellLater hcx.2.1
  have k2 : ∀ xl : Later W [], xl.w.cell? ⟨b, off + x * 4 + 2, none⟩ = some (.int .i64 A.w) := cellLater hcx.2.2.1
  have k3 : ∀ xl : Later W [], xl.w.cell? ⟨b, off + x * 4 + 3, none⟩ = some (.int .i64 A.m) := cellLater hcx.2.2.2
  have l0 : ∀ xl : Later W [], xl.w.cell? ⟨b, off + y * 4, none⟩ = some (.int .i64 B.a) := cellLater hcy.1
  have l1 : ∀ xl : Later W [], xl.w.cell? ⟨b, off + y * 4 + 1, none⟩ = some (.int .i64 B.b) := cellLater hcy.2.1
  have l2 : ∀ xl : Later W [], xl.w.cell? ⟨b, off + y * 4 + 2, none⟩ = some (.int .i64 B.w) := cellLater hcy.2.2.1
  have l3 : ∀ xl : Later W [], xl.w.cell? ⟨b, off + y * 4 + 3, none⟩ = some (.int .i64 B.m) := cellLater hcy.2.2.2
  have hlat := Lib.hid (fun (xl : Later W []) => HR.out.below ((xl.h.below (Nat.le_refl _) (fun d hd => by cases hd) : Below W.heap.size W xl.w)))
  clear hcx hcy
  have hn40 : nr ≤ 1000000 := by omega
  have HA := Lib.hid (fun (xl : Later W []) => mid_any pr nr cr (some ⟨b, off, none⟩) nl cl rk A xl.w hn40 (hlat.out xl) HMX.out)
  have HB := Lib.hid (fun (xl : Later W []) => mid_any pr nr cr (some ⟨b, off, none⟩) nl cl rk B xl.w hn40 (hlat.out xl) HMY.out)
  clear hn40
  rw [HP.out] at HA
  rw [HQ.out] at HB
  repeat (refine walkT_step (fun K hK => ?_); go_simp; first | (refine hK _ _ ?_; clear hK K) | ((with_reducible refine ⟨_, fun xl => compare_low _ _ _, ?_⟩); refine hK _ _ ?_; clear hK K) | ((with_reducible refine ⟨_, HA.out, ?_⟩); refine hK _ _ ?_; clear hK K) | ((with_reducible refine ⟨_, HB.out, ?_⟩); refine hK _ _ ?_; clear hK K))
  refine walkT_nil ?_
  intro w5 hc
  have hb5 := hc.below
  clear hc f0 f1 k0 k1 k2 k3 l0 l1 l2 l3
  go_wp2_with fail
  go_ret
  exact ⟨rfl, hb5⟩
/-- The comparison, as a stable sort of places asks for it. -/
theorem ordcmp_ok {pr : Option Addr} {nr cr : Nat} {pl : Option Addr} {nl cl : Nat} {rk : Fn} {ls : Ls} {bx g : Nat} {w w0 : World} (hnr : nr ≤ 40) (hnl : nl ≤ 400) (hb : Below w.heap.size w w0) (hg : w.heap.size ≤ g) (hne : bx ≠ g) (hbx : BoxH w0 bx pr nr cr pl nl cl) (hh : HAt w pr nr rk pl nl ls) (hm : MidOK nr nl ls) :
    CmpOK (keyL rk ls) (fun x => 0 ≤ x ∧ x < (nl : Int)) g ⟨bx, 0, none⟩ w0 := by
  intro W x y hk hx hy
  obtain ⟨x, rfl⟩ : ∃ k : Nat, x = k := ⟨x.toNat, by omega⟩
  obtain ⟨y, rfl⟩ : ∃ k : Nat, y = k := ⟨y.toNat, by omega⟩
  have hW : Below w.heap.size w W := hb.trans (hk.below hb.size (fun d hd => by rw [List.mem_singleton.1 hd]; exact hg))
  have hbW : BoxH W bx pr nr cr pl nl cl := (hk.block bx (lt_of_some hbx) (not_mem1 hne)).trans hbx
  exact ordcmp_any pr nr cr pl nl cl rk ls bx x y W hnr hnl (by omega) (by omega) hbW (hh.below hW) hm

theorem info3 : (Try.prog.info? 3).map (fun i => (i.zero, i.size, i.bytes)) = some (some (.int .i64 0), 1, 8) := by kernel_rfl
def idF : Fn := fun i => (i : Int)
def intCs (f : Fn) (n : Nat) : List Value := (List.range n).map (fun i => .int .i64 (f i))
theorem intCs_len (f : Fn) (n : Nat) : (intCs f n).length = n := by simp [intCs]
theorem intCs_at (f : Fn) (n i : Nat) (h : i < n) : (intCs f n)[i]? = some (.int .i64 (f i)) := by simp [intCs, h]
theorem intCs_succ (f : Fn) (n : Nat) : intCs f (n + 1) = intCs f n ++ [.int .i64 (f n)] := by simp [intCs, List.range_succ]
theorem intCs_one (f : Fn) (n : Nat) : ∀ u ∈ intCs f n, u.oneCell' = true := by
  intro u h
  simp only [intCs, List.mem_map] at h
  obtain ⟨i, _, rfl⟩ := h
  rfl
/-- A row of the call's own that holds these numbers. -/
theorem row_of_owns {w : World} {base g n cap : Nat} {f : Fn} (h : w.ownsRow base 3 1 (.slice (some ⟨g, 0, none⟩) n cap) n (intCs f n)) (hn : 0 < n) : base ≤ g ∧ ∃ cur, w.heap[g]? = some (.cells cur 3 (0, 0)) ∧ HasP cur n f := by
  rcases h.2 with ⟨h1, h2⟩ | ⟨g', cap', cur, h1, h2, h3, h4, h5, h6, h7⟩
  · omega
  · simp only [Value.slice.injEq, Option.some.injEq] at h1
    obtain ⟨h1, _, rfl⟩ := h1
    obtain rfl : g = g' := by simpa using congrArg Addr.block h1
    refine ⟨h2, cur, h3, fun i hi => ?_⟩
    have e : cur[i]? = (intCs f n)[i]? := by
      rw [← h7, List.getElem?_take, if_pos (by omega)]; simp
    rw [e, intCs_at f n i hi]
/-- A row of the call's own, from block lo on. -/
def RowIn (w : World) (p : Option Addr) (lo n : Nat) (h : Fn) : Prop := 0 < n → ∃ g, p = some ⟨g, 0, none⟩ ∧ lo ≤ g ∧ ∃ cur, w.heap[g]? = some (.cells cur 3 (0, 0)) ∧ HasP cur n h
theorem RowIn.but {w w' : World} {p : Option Addr} {lo n u : Nat} {h : Fn} (hr : RowIn w p lo n h) (hk : Kept [u] w w') (hu : u < lo) : RowIn w' p lo n h := fun h0 => by
  obtain ⟨g, e, hg, cur, hc, hp⟩ := hr h0
  exact ⟨g, e, hg, cur, (hk.block g (lt_of_some hc) (not_mem1 (by omega))).trans hc, hp⟩
def OrderPost (w : World) (nl : Nat) (key : Int → Int) (e : Ending) (w' : World) : Prop := ∃ (p : Option Addr) (cap : Nat) (h : Fn), e = .returned (.slice p nl cap) ∧ Below w.heap.size w w' ∧ Sw 0 nl idF h ∧ Asc key 0 nl h ∧ RowIn w' p w.heap.size nl h
set_option maxRecDepth 100000 in
theorem order_all (pr : Option Addr) (nr cr : Nat) (pl : Option Addr) (nl cl : Nat) (rk : Fn) (ls : Ls) (w : World) (hnr : nr ≤ 40) (hnl : nl ≤ 400) (hh : HAt w pr nr rk pl nl ls) (hm : MidOK nr nl ls) :
    Calls Try.prog 14 #[HV pr nr cr pl nl cl] w (OrderPost w nl (keyL rk ls)) := by
  obtain ⟨i0, hi0, hz0', hz1', hz2'⟩ := info_parts info3
  have HH := Lib.hid hh
  have HM := Lib.hid hm
  clear hh hm
  go_enter Try.func14, Try.ntmps14
  go_wp2_with fail
  go_loopw [3, 8] (fun s3 s8 wr => ∃ (i : Nat) (sv : Value), sv = s3 ∧ s8 = .int .i64 i ∧ i ≤ nl ∧ Below w.heap.size w wr ∧ BoxH wr w.heap.size pr nr cr pl nl cl ∧ Hid (wr.ownsRow (w.heap.size + 1) 3 1 sv i (intCs idF i)) ∧ Hid (i = 0 → sv = .slice none 0 0)) (fun _ s8 _ => nl - (intOf s8).toNat)
  case atStart => exact ⟨0, _, rfl, rfl, by omega, by go_grown, heap_alloc_is rfl, Lib.hid ⟨rfl, .inl ⟨rfl, rfl⟩⟩, Lib.hid (fun _ => rfl)⟩
  case round =>
    obtain ⟨i, sv, rfl, rfl, hi, hb, hbox, hown, hnil⟩ := hrel
    have HBX := Lib.hid hbox
    have hbl := lt_of_some hbox
    clear hbox
    by_cases hlt : i < nl
    · go_wp2_with (at_builtin; refine wpList_append_lies _ rfl _ _ 22 rfl (w.heap.size + 1) 3 i0 _ 1 8 Try.underlying22 hi0 hz0' hz1' hz2' rfl (by decide) sv i (intCs idF i) rfl (hown.out.alloc _) ⟨wr.heap.size, 0, none⟩ 1 1 [.int .i64 (idF i)] rfl rfl ?hnews (by intro u hu; rw [List.mem_singleton.1 hu]; rfl) (by decide) (by unfold maxLen; omega) (by omega) (by simp; omega) _ rfl ?_; rotate_left; intro g c w3 hown3 hgrow hat hlt3)
      · have hne : sv.ownBlock ≠ some w.heap.size := fun e => by have := (hown.out.lt _ e).1; omega
        have hbW : Below w.heap.size w w3 := (hb.alloc hb.size _).grown hgrow (by simp; omega) (fun k hk => by have := (hown.out.lt _ hk).1; omega)
        have HB3 := Lib.hid (show BoxH w3 w.heap.size pr nr cr pl nl cl from (hgrow.block w.heap.size (by simp; omega) (Ne.symm hne)).trans (heap_alloc_lt HBX.out))
        rw [← intCs_succ] at hown3
        have HO4 := Lib.hid hown3
        clear hown3 hgrow hat hlt3 hne
        go_wp2_with fail
        go_roundw
        case rel => exact ⟨i + 1, _, rfl, by go_num, hlt, hbW, HB3.out, HO4, Lib.hid (fun h => absurd h (by omega))⟩
        case measure => simp [intOf]; omega
      · intro j u hj
        match j, hj with
        | 0, hj =>
          rw [← Option.some.inj hj]
          exact cell_of_block (heap_alloc_is (by simp)) rfl
    · obtain rfl : i = nl := by omega
      by_cases h0 : i = 0
      · subst h0
        obtain rfl := hnil.out rfl
        clear hown hnil
        go_wp2_with fail
        refine (sortstable_zero none 0 _ _).mono ?_
        rintro e w1 ⟨rfl, rfl⟩
        go_wp2_with fail
        go_ret
        exact ⟨none, 0, idF, rfl, hb, .refl _, fun x y h1 h2 h3 => absurd h3 (by omega), fun h => absurd h (by omega)⟩
      · obtain ⟨g, cap, rfl, hg1, hg2⟩ := hown.out.form (by omega)
        obtain ⟨_, cur, hcur, hhas⟩ := row_of_owns hown.out (by omega)
        have HRow := Lib.hid (show RowAt wr g i idF wr from ⟨Kept.refl _ _, cur, hcur, hhas⟩)
        have HCM := Lib.hid (ordcmp_ok (bx := w.heap.size) (g := g) hnr hnl hb (by omega) (by omega) HBX.out HH.out HM.out)
        clear hown hnil hcur hhas
        go_wp2_with fail
        refine (sortstable_any (keyL rk ls) (fun x => 0 ≤ x ∧ x < (i : Int)) g i cap _ idF _ (by omega) HRow.out HCM.out (fun x hx => ⟨Int.natCast_nonneg x, Int.ofNat_lt.2 hx⟩)).mono ?_
        rintro e w1 ⟨rfl, h, hr1, hs1, ha1⟩
        have HR1 := Lib.hid hr1
        have H2 := Lib.hid hs1
        have H3 := Lib.hid ha1
        clear hr1 hs1 ha1
        go_wp2_with fail
        go_ret
        obtain ⟨cur1, hc1, hp1⟩ := HR1.out.row
        exact ⟨some ⟨g, 0, none⟩, cap, h, rfl, hb.trans (HR1.out.kept.below hb.size (fun d hd => by rw [List.mem_singleton.1 hd]; omega)), H2.out, H3.out, fun _ => ⟨g, rfl, by omega, cur1, hc1, hp1⟩⟩
end Go.Proofs.Ytgmlaimlcccmhaa
