/-
  WHAT A LINK IS UNPACKED TO, BY THE DOCUMENT: a function that calls itself (Link of snicketref27). CONDITIONS: the hierarchy may be; at most 13 deep.
-/
import Derived.Test.YtgmlaimlcccmhaaNTaint
import Derived.Test.YtgmlaimlcccmhaaNRefLink
import Derived.Deep.RegionHeld3
namespace Go.Proofs.Ytgmlaimlcccmhaa
open Go.RowKit Go.Proofs.Ytgmlaimlcccmhaa.Tame
set_option maxHeartbeats 400000

def intsL (xs : List Int) : List Value := xs.map (fun x => .int .i64 x)
theorem intsL_len (xs : List Int) : (intsL xs).length = xs.length := by simp [intsL]
theorem intsL_app (xs ys : List Int) : intsL (xs ++ ys) = intsL xs ++ intsL ys := by simp [intsL]
theorem intsL_one (xs : List Int) : ∀ u ∈ intsL xs, u.oneCell' = true := by
  intro u h
  simp only [intsL, List.mem_map] at h
  obtain ⟨x, _, rfl⟩ := h
  rfl
theorem unL_len (ls : Ls) (nl : Nat) : ∀ (d i : Nat), 0 < (unL ls nl d i).length ∧ (unL ls nl d i).length ≤ 2 ^ d
  | 0, i => ⟨Nat.zero_lt_one, Nat.le_refl _⟩
  | d + 1, i => by
    have h1 := unL_len ls nl d (lnkR ls (ls i).a (ls i).m nl).toNat
    have h2 := unL_len ls nl d (lnkR ls (ls i).m (ls i).b nl).toNat
    have hp : 1 ≤ 2 ^ d := Nat.one_le_two_pow
    unfold unL
    split
    · simp only [List.length_singleton]; omega
    · rw [List.length_append]; omega
def UnPost (w : World) (xs : List Int) (e : Ending) (w' : World) : Prop := ∃ g cap, e = .returned (.slice (some ⟨g, 0, none⟩) xs.length cap) ∧ w'.ownsRow w.heap.size 3 1 (.slice (some ⟨g, 0, none⟩) xs.length cap) xs.length (intsL xs) ∧ Below w.heap.size w w'
theorem grown_of_below {w w' : World} (hb : Below w.heap.size w w') (row : Option Nat) : w.grownBy w' row := ⟨hb.os, hb.tape, hb.output, hb.size, fun i hi _ => hb.block i hi⟩
theorem owns_mono {w : World} {base base' : Nat} {e : TypeId} {size : Nat} {v : Value} {n : Nat} {xs : List Value} (h : w.ownsRow base e size v n xs) (hb : base' ≤ base) : w.ownsRow base' e size v n xs := by
  refine ⟨h.1, ?_⟩
  rcases h.2 with h2 | ⟨g, cap, cur, h1, h2, h3⟩
  · exact .inl h2
  · exact .inr ⟨g, cap, cur, h1, Nat.le_trans hb h2, h3⟩
theorem owns_one (w : World) (x : Int) : (w.alloc (.cells #[.int .i64 x] 3)).ownsRow w.heap.size 3 1 (.slice (some ⟨w.heap.size, 0, none⟩) 1 1) 1 (intsL [x]) :=
  ⟨rfl, .inr ⟨w.heap.size, 1, #[.int .i64 x], rfl, Nat.le_refl _, heap_alloc_is rfl, Nat.le_refl _, by unfold maxLen; omega, rfl, rfl⟩⟩

theorem owns_new {w : World} {x : Int} {g base : Nat} (hg : w.heap.size = g) (hb : base ≤ g) : (w.alloc (.cells #[.int .i64 x] 3)).ownsRow base 3 1 (.slice (some ⟨g, 0, none⟩) 1 1) 1 (intsL [x]) := by
  subst hg
  exact owns_mono (owns_one w x) hb
theorem unpack_leaf (pr : Option Addr) (nr cr : Nat) (pl : Option Addr) (nl cl : Nat) (ls : Ls) (d i : Nat) (w : World) (hnl : nl ≤ 400) (hd : d ≤ 40) (hi : i < nl) (hl : LinksAt w pl nl ls) (hm : (ls i).m = -1 ∨ d = 0) :
    Calls Try.prog 16 #[HV pr nr cr pl nl cl, .int .i64 i, .int .i64 d] w (UnPost w [(ls i).b]) := by
  obtain ⟨b, off, rfl, hc⟩ := hl (by omega)
  have hci := hc i hi
  clear hc hl
  generalize ls i = A at hci hm ⊢
  obtain ⟨c0, c1, c2, c3⟩ := hci
  have hbl := World.block_lt_of_cell? w _ c0
  simp only at hbl
  have z1 : (i : Int) < (nl : Int) := by omega
  have z2 : (0 : Int) ≤ (i : Int) := Int.natCast_nonneg _
  by_cases hm1 : A.m = -1
  · rw [hm1] at c3
    clear hm hm1
    go_enter Try.func16, Try.ntmps16
    go_wp2_with fail
    go_ret
    exact ⟨_, 1, rfl, owns_new (by simp) (by omega), by go_grown⟩
  · obtain rfl : d = 0 := by rcases hm with h | h; exact absurd h hm1; exact h
    have e1 : (A.m == -1) = false := beq_eq_false_iff_ne.2 hm1
    have e2 : (A.m != -1) = true := bne_iff_ne.2 hm1
    clear hm hm1
    go_enter Try.func16, Try.ntmps16
    go_wp2_with fail
    go_ret
    exact ⟨_, 1, rfl, owns_new (by simp) (by omega), by go_grown⟩

theorem owns_below {w w' : World} {base g n cap : Nat} {xs : List Value} (h : w.ownsRow base 3 1 (.slice (some ⟨g, 0, none⟩) n cap) n xs) (hb : Below w.heap.size w w') : w'.ownsRow base 3 1 (.slice (some ⟨g, 0, none⟩) n cap) n xs :=
  h.kept (grown_of_below hb none) (.inr (by simp [Value.ownBlock]))
set_option maxRecDepth 100000 in
set_option maxHeartbeats 4000000 in
theorem unpack_join (pr : Option Addr) (nr cr : Nat) (pl : Option Addr) (nl cl : Nat) (ls : Ls) (d i ka kb : Nat) (xa xb : List Int) (w : World) (hnl : nl ≤ 400) (hd : d + 1 ≤ 13) (hi : i < nl) (hl : LinksAt w pl nl ls) (hm : (ls i).m ≠ -1)
    (ra : lnkR ls (ls i).a (ls i).m nl = ka) (rb : lnkR ls (ls i).m (ls i).b nl = kb) (la : 0 < xa.length ∧ xa.length ≤ 4096) (lb : 0 < xb.length ∧ xb.length ≤ 4096)
    (iha : Hid (∀ W : World, Below w.heap.size w W → Calls Try.prog 16 #[HV pr nr cr pl nl cl, .int .i64 ka, .int .i64 d] W (UnPost W xa)))
    (ihb : Hid (∀ W : World, Below w.heap.size w W → Calls Try.prog 16 #[HV pr nr cr pl nl cl, .int .i64 kb, .int .i64 d] W (UnPost W xb))) :
    Calls Try.prog 16 #[HV pr nr cr pl nl cl, .int .i64 i, .int .i64 (d + 1)] w (UnPost w (xa ++ xb)) := by
  obtain ⟨i0, hi0, hz0', hz1', hz2'⟩ := info_parts info3
  have HL := Lib.hid hl
  obtain ⟨b, off, rfl, hc⟩ := hl (by omega)
  have hci := hc i hi
  clear hc hl
  generalize ls i = A at hci hm ra rb
  have HRA := Lib.hid ra
  have HRB := Lib.hid rb
  clear ra rb
  obtain ⟨c0, c1, c2, c3⟩ := hci
  have hbl := World.block_lt_of_cell? w _ c0
  simp only at hbl
  have z1 : (i : Int) < (nl : Int) := by omega
  have z2 : (0 : Int) ≤ (i : Int) := Int.natCast_nonneg _
  have e1 : (A.m == -1) = false := beq_eq_false_iff_ne.2 hm
  have e2 : (A.m != -1) = true := bne_iff_ne.2 hm
  clear hm
  go_enter Try.func16, Try.ntmps16
  go_upto_region 4 with (fail)
  refine draws_hid (by kernel_rfl) (by kernel_rfl) (by kernel_rfl) (fun W hW ops hops => ?_)
  have hbW : Below w.heap.size w W := by rw [hW]; go_grown
  have gB : W.heap[w.heap.size]? = some (.cells #[.slice pr nr cr, .slice (some ⟨b, off, none⟩) nl cl] 25 (0, 0)) := by rw [hW]; exact heap_alloc_lt (heap_alloc_is rfl)
  have gX : W.heap[w.heap.size + 1]? = some (.cells #[.int .i64 A.a, .int .i64 A.b, .int .i64 A.w, .int .i64 A.m] 40) := by rw [hW]; exact heap_alloc_is (by simp)
  clear hW hops c0 c1 c2 c3 e1 e2
  have f1 : ∀ xl : Later W [], xl.w.cell? ⟨w.heap.size, 1, none⟩ = some (.slice (some ⟨b, off, none⟩) nl cl) := fun xl => cell_of_block (Later.at0 gB xl) rfl
  have x0 : ∀ xl : Later W [], xl.w.cell? ⟨w.heap.size + 1, 0, none⟩ = some (.int .i64 A.a) := fun xl => cell_of_block (Later.at0 gX xl) rfl
  have x1 : ∀ xl : Later W [], xl.w.cell? ⟨w.heap.size + 1, 1, none⟩ = some (.int .i64 A.b) := fun xl => cell_of_block (Later.at0 gX xl) rfl
  have x3 : ∀ xl : Later W [], xl.w.cell? ⟨w.heap.size + 1, 3, none⟩ = some (.int .i64 A.m) := fun xl => cell_of_block (Later.at0 gX xl) rfl
  have hlat := Lib.hid (fun (xl : Later W []) => HL.out.below (hbW.trans ((xl.h.below (Nat.le_refl _) (fun d hd => by cases hd) : Below W.heap.size W xl.w).mono hbW.size)))
  repeat (refine walkT_step (fun K hK => ?_); go_simp; first | (refine hK _ _ ?_; clear hK K) | (refine ⟨_, fun xl => (reflink_any _ _ _ ls _ _ _ hnl (hlat.out xl)).mono fun _ _ h => ⟨h.1, h.2 ▸ Below.refl _ _⟩, ?_⟩; refine hK _ _ ?_; clear hK K))
  refine walkT_nil ?_
  intro W0 hc
  have hb0 := hbW.trans (hc.below.mono hbW.size)
  replace gB := hc.at0 gB
  have hsz0 := lt_of_some (hc.at0 gX)
  clear hc f1 x0 x1 x3 hlat gX hbW
  rw [HRA.out, HRB.out]
  have s0 : W0.cell? ⟨w.heap.size, 0, none⟩ = some (.slice pr nr cr) := cell_of_block gB rfl
  have s1 : W0.cell? ⟨w.heap.size, 1, none⟩ = some (.slice (some ⟨b, off, none⟩) nl cl) := cell_of_block gB rfl
  have GB := Lib.hid gB
  clear gB
  have HB0 := Lib.hid hb0
  have HB0d := Lib.hid (show Below w.heap.size w W0.drew from ⟨hb0.os, hb0.tape, hb0.output, hb0.size, hb0.block⟩)
  clear hb0
  go_upto_region 5 with (fail)
  have hwp : IntKind.i64.wrap (d : Int) = (d : Int) := IntWalk.i64_in _ (by omega)
  go_region_held3 (fun w' => w'.cell? ⟨w.heap.size, 0, none⟩ = some (.slice pr nr cr) ∧ w'.cell? ⟨w.heap.size, 1, none⟩ = some (.slice (some ⟨b, off, none⟩) nl cl))
    (first
      | exact ⟨s0, s1⟩
      | exact ⟨cell_of_block (keep2 hby GB.out) rfl, cell_of_block (keep2 hby GB.out) rfl⟩
      | exact ⟨cell_of_block (keep2 hbz GB.out) rfl, cell_of_block (keep2 hbz GB.out) rfl⟩
      | exact ⟨cell_of_block (keep2 hba GB.out) rfl, cell_of_block (keep2 hba GB.out) rfl⟩
      | exact ⟨cell_of_block (keep2 hbb GB.out) rfl, cell_of_block (keep2 hbb GB.out) rfl⟩)
    (first
      | (have h9 := HB0.out.trans (hbb.mono HB0.out.size); (with_reducible refine (iha.out _ h9).mono ?_); rintro e wa ⟨ga, ca, rfl, owa, hba⟩; have fa := owns_mono (base' := W0.heap.size) owa hbb.size; have fb := owns_below owb hba; have hbz := hbb.trans (hba.mono hbb.size))
      | (have h9 := HB0.out.trans (hba.mono HB0.out.size); (with_reducible refine (ihb.out _ h9).mono ?_); rintro e wb ⟨gb, cb, rfl, owb, hbb⟩; have fb := owns_mono (base' := W0.heap.size) owb hba.size; have fa := owns_below owa hbb; have hbz := hba.trans (hbb.mono hba.size))
      | ((with_reducible refine (iha.out _ HB0d.out).mono ?_); rintro e wa ⟨ga, ca, rfl, owa', hba'⟩; have owa : wa.ownsRow W0.heap.size 3 1 (.slice (some ⟨ga, 0, none⟩) xa.length ca) xa.length (intsL xa) := owa'; have hba : Below W0.heap.size W0 wa := ⟨hba'.os, hba'.tape, hba'.output, hba'.size, hba'.block⟩; clear owa' hba')
      | ((with_reducible refine (ihb.out _ HB0d.out).mono ?_); rintro e wb ⟨gb, cb, rfl, owb', hbb'⟩; have owb : wb.ownsRow W0.heap.size 3 1 (.slice (some ⟨gb, 0, none⟩) xb.length cb) xb.length (intsL xb) := owb'; have hbb : Below W0.heap.size W0 wb := ⟨hbb'.os, hbb'.tape, hbb'.output, hbb'.size, hbb'.block⟩; clear owb' hbb')
      | (refine step_append_lies _ (by rfl) _ _ _ (by rfl) W0.heap.size 3 i0 _ 1 8 Try.underlying22 hi0 hz0' hz1' hz2' rfl (by decide) _ xa.length (intsL xa) (by rfl) fa ⟨gb, 0, none⟩ xb.length cb (intsL xb) (by rfl) (by rw [intsL_len]; omega) (World.ownsRow.cells fb rfl) (intsL_one xb) lb.1 (by unfold maxLen; omega) (by omega) hbz.size _ rfl ?_; intro g c w3 hown3 hgrow hat hlt3; have hby : Below W0.heap.size W0 w3 := hbz.grown hgrow hbz.size (fun k hk => (World.ownsRow.lt fa k hk).1)))
  all_goals
    have HFIN := Lib.hid (show w3.ownsRow w.heap.size 3 1 (.slice (some ⟨g, 0, none⟩) (xa ++ xb).length c) (xa ++ xb).length (intsL (xa ++ xb)) by rw [List.length_append, intsL_app]; exact owns_mono hown3 HB0.out.size)
    have HBF := Lib.hid (HB0.out.trans (hby.mono HB0.out.size))
    clear hown3 hgrow hat hlt3 hby hbz fa fb owa owb
    go_wp2_with fail
    go_ret
    exact ⟨g, c, by rw [List.length_append]; rfl, HFIN.out, HBF.out⟩

/-- What a link is unpacked to, to a depth. -/
theorem unpack_any (pr : Option Addr) (nr cr : Nat) (pl : Option Addr) (nl cl : Nat) (rk : Fn) (ls : Ls) (hnl : nl ≤ 400) (hM : MayP nr rk nl ls) : ∀ (d i : Nat) (w : World), d ≤ 13 → i < nl → LinksAt w pl nl ls →
    Calls Try.prog 16 #[HV pr nr cr pl nl cl, .int .i64 i, .int .i64 d] w (UnPost w (unL ls nl d i)) := by
  intro d
  induction d with
  | zero => intro i w hd hi hl; exact unpack_leaf pr nr cr pl nl cl ls 0 i w hnl (by omega) hi hl (.inr rfl)
  | succ d ih =>
    intro i w hd hi hl
    by_cases hm : (ls i).m = -1
    · rw [unL_leaf hm]
      exact unpack_leaf pr nr cr pl nl cl ls (d + 1) i w hnl (by omega) hi hl (.inl hm)
    · obtain ⟨ka, kb, H⟩ := hM.halves hi hm
      rw [unL_join hm H]
      have h1 := unL_len ls nl d ka
      have h2 := unL_len ls nl d kb
      have hp : 2 ^ d ≤ 2 ^ 12 := Nat.pow_le_pow_right (by omega) (by omega)
      exact unpack_join pr nr cr pl nl cl ls d i ka kb _ _ w hnl hd hi hl hm H.ra H.rb ⟨h1.1, by omega⟩ ⟨h2.1, by omega⟩ (Lib.hid fun W hW => ih ka W (by omega) H.ha (hl.below hW)) (Lib.hid fun W hW => ih kb W (by omega) H.hb (hl.below hW))
end Go.Proofs.Ytgmlaimlcccmhaa
