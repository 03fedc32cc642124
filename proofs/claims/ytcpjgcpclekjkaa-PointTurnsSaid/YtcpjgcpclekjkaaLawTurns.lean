/-
  PROVED: PointTurns: the theorem of turning: twice the area of three points changes its sign with two of them exchanged, and stays as all are turned; how far they are from each other, too; far is 0 just of one point. CONDITIONS: none: for every three points and every number of quarters.
-/
import Derived.Test.YtcpjgcpclekjkaaPlain
import Derived.Test.YtcpjgcpclekjkaaKit
import Derived.Lib.Hide
namespace Go.Proofs.Ytcpjgcpclekjkaa
open Go.RowKit Go.Proofs.Ytcpjgcpclekjkaa.Tame
set_option maxHeartbeats 400000


theorem tPt : Try.prog.cellTypes Try.prog.depth 23 = some [3, 3] := by kernel_rfl
theorem cPt : Try.prog.cellsOf 23 = 2 := by kernel_rfl
theorem uInt : ∀ u, u ∈ ([3, 3] : List TypeId) → Try.prog.underlying u = some (.int .i64) := by
  intro u hu; simp at hu; subst hu; exact Try.underlying3


set_option maxHeartbeats 4000000 in
theorem turns_all (ax ay bx by' cx cy q : Int) (w : World) : Calls Try.prog 3 #[.agg #[.int .i64 ax, .int .i64 ay, .int .i64 bx, .int .i64 by', .int .i64 cx, .int .i64 cy], .int .i64 q] w fun e w' => e = .returned (.bool true) ∧ Below w.heap.size w w' := by
  go_enter Try.func3, Try.ntmps3
  go_upto_region 1 with (fail)
  refine draws_hid (by kernel_rfl) (by kernel_rfl) (by kernel_rfl) (fun W hW ops hops => ?_)
  have hb : Below w.heap.size w W := by rw [hW]; go_grown
  have g0 : W.heap[w.heap.size]? = some (.cells #[.int .i64 ax, .int .i64 ay, .int .i64 bx, .int .i64 by', .int .i64 cx, .int .i64 cy] 24) := by rw [hW]; exact heap_alloc_is (rfl)
  clear hW
  clear hops
  have f0 : ∀ x : Later W, x.w.cell? ⟨w.heap.size, 0, none⟩ = some (.int .i64 ax) := fun x => cell_of_block (Later.at g0 x) rfl
  have f1 : ∀ x : Later W, x.w.cell? ⟨w.heap.size, 1, none⟩ = some (.int .i64 ay) := fun x => cell_of_block (Later.at g0 x) rfl
  have f2 : ∀ x : Later W, x.w.cell? ⟨w.heap.size, 2, none⟩ = some (.int .i64 bx) := fun x => cell_of_block (Later.at g0 x) rfl
  have f3 : ∀ x : Later W, x.w.cell? ⟨w.heap.size, 3, none⟩ = some (.int .i64 by') := fun x => cell_of_block (Later.at g0 x) rfl
  have f4 : ∀ x : Later W, x.w.cell? ⟨w.heap.size, 4, none⟩ = some (.int .i64 cx) := fun x => cell_of_block (Later.at g0 x) rfl
  have f5 : ∀ x : Later W, x.w.cell? ⟨w.heap.size, 5, none⟩ = some (.int .i64 cy) := fun x => cell_of_block (Later.at g0 x) rfl
  repeat (refine walkT_step (fun K hK => ?_); go_simp; first | (refine hK _ _ ?_; clear hK K) | (refine ⟨_, fun x => calm_eq2, ?_⟩; refine hK _ _ ?_; clear hK K))
  refine walkT_step (fun K hK => ?_)
  go_simp
  refine ⟨_, fun _ => rfl, fun ka hka nka => hK _ _ ?_⟩; clear hK K
  refine walkT_step (fun K hK => ?_)
  go_simp
  refine ⟨_, fun _ => rfl, fun kb hkb nkb => hK _ _ ?_⟩; clear hK K
  have ne_kb_ka : kb ≠ ka := fun e => by subst e; simp [Gh.set] at nkb
  have ne_ka_kb : ka ≠ kb := Ne.symm ne_kb_ka
  refine walkT_step (fun K hK => ?_)
  go_simp
  refine ⟨_, fun _ => rfl, fun kc hkc nkc => hK _ _ ?_⟩; clear hK K
  have ne_kc_ka : kc ≠ ka := fun e => by subst e; simp [Gh.set] at nkc
  have ne_ka_kc : ka ≠ kc := Ne.symm ne_kc_ka
  have ne_kc_kb : kc ≠ kb := fun e => by subst e; simp [Gh.set] at nkc
  have ne_kb_kc : kb ≠ kc := Ne.symm ne_kc_kb
  clear nka nkb nkc
  refine walkT_fill (k := ka) (ob := #[.int .i64 0, .int .i64 0]) (t := 23) (v := .agg #[.int .i64 ax, .int .i64 ay]) rfl rfl rfl rfl ((Gh.set_ne _ _ ne_ka_kc).trans ((Gh.set_ne _ _ ne_ka_kb).trans (Gh.set_same _ _ _))) rfl (by kernel_rfl) rfl rfl ?_
  refine walkT_fill (k := kb) (ob := #[.int .i64 0, .int .i64 0]) (t := 23) (v := .agg #[.int .i64 bx, .int .i64 by']) rfl rfl rfl rfl ((Gh.set_ne _ _ ne_kb_ka).trans ((Gh.set_ne _ _ ne_kb_kc).trans (Gh.set_same _ _ _))) rfl (by kernel_rfl) rfl rfl ?_
  refine walkT_fill (k := kc) (ob := #[.int .i64 0, .int .i64 0]) (t := 23) (v := .agg #[.int .i64 cx, .int .i64 cy]) rfl rfl rfl rfl ((Gh.set_ne _ _ ne_kc_kb).trans ((Gh.set_ne _ _ ne_kc_ka).trans (Gh.set_same _ _ _))) rfl (by kernel_rfl) rfl rfl ?_
  refine walkT_nil ?_
  intro w1 hc
  replace g0 := hc.at g0
  have g1 : w1.heap[ka]? = some (.cells #[.int .i64 ax, .int .i64 ay] 23) := (hc.own ka _ true ((Gh.set_ne _ _ ne_ka_kc).trans ((Gh.set_ne _ _ ne_ka_kb).trans (Gh.set_same _ _ _)))).2
  have g2 : w1.heap[kb]? = some (.cells #[.int .i64 bx, .int .i64 by'] 23) := (hc.own kb _ true ((Gh.set_ne _ _ ne_kb_kc).trans (Gh.set_same _ _ _))).2
  have g3 : w1.heap[kc]? = some (.cells #[.int .i64 cx, .int .i64 cy] 23) := (hc.own kc _ true (Gh.set_same _ _ _)).2
  replace hb := hb.trans (hc.below.mono hb.size)
  clear hc f0 f1 f2 f3 f4 f5 hka hkb hkc W
  go_upto_region 2 with (fail)
  refine draws_hid (by kernel_rfl) (by kernel_rfl) (by kernel_rfl) (fun W hW ops hops => ?_)
  subst hW
  clear hops
  have f6 : ∀ x : Later W, x.w.cell? ⟨w.heap.size, 0, none⟩ = some (.int .i64 ax) := fun x => cell_of_block (Later.at g0 x) rfl
  have f7 : ∀ x : Later W, x.w.cell? ⟨w.heap.size, 1, none⟩ = some (.int .i64 ay) := fun x => cell_of_block (Later.at g0 x) rfl
  have f8 : ∀ x : Later W, x.w.cell? ⟨w.heap.size, 2, none⟩ = some (.int .i64 bx) := fun x => cell_of_block (Later.at g0 x) rfl
  have f9 : ∀ x : Later W, x.w.cell? ⟨w.heap.size, 3, none⟩ = some (.int .i64 by') := fun x => cell_of_block (Later.at g0 x) rfl
  have f10 : ∀ x : Later W, x.w.cell? ⟨w.heap.size, 4, none⟩ = some (.int .i64 cx) := fun x => cell_of_block (Later.at g0 x) rfl
  have f11 : ∀ x : Later W, x.w.cell? ⟨w.heap.size, 5, none⟩ = some (.int .i64 cy) := fun x => cell_of_block (Later.at g0 x) rfl
  have f12 : ∀ x : Later W, x.w.cell? ⟨ka, 0, none⟩ = some (.int .i64 ax) := fun x => cell_of_block (Later.at g1 x) rfl
  have f13 : ∀ x : Later W, x.w.cell? ⟨ka, 1, none⟩ = some (.int .i64 ay) := fun x => cell_of_block (Later.at g1 x) rfl
  have f14 : ∀ x : Later W, x.w.cell? ⟨kb, 0, none⟩ = some (.int .i64 bx) := fun x => cell_of_block (Later.at g2 x) rfl
  have f15 : ∀ x : Later W, x.w.cell? ⟨kb, 1, none⟩ = some (.int .i64 by') := fun x => cell_of_block (Later.at g2 x) rfl
  have f16 : ∀ x : Later W, x.w.cell? ⟨kc, 0, none⟩ = some (.int .i64 cx) := fun x => cell_of_block (Later.at g3 x) rfl
  have f17 : ∀ x : Later W, x.w.cell? ⟨kc, 1, none⟩ = some (.int .i64 cy) := fun x => cell_of_block (Later.at g3 x) rfl
  repeat (refine walkT_step (fun K hK => ?_); go_simp; first | (refine hK _ _ ?_; clear hK K) | (refine ⟨_, fun x => calm_eq2, ?_⟩; refine hK _ _ ?_; clear hK K) | (refine ⟨_, fun x => turned_any _ _ _ _, ?_⟩; refine hK _ _ ?_; clear hK K))
  refine walkT_step (fun K hK => ?_)
  go_simp
  refine ⟨_, fun _ => rfl, fun kx hkx nkx => hK _ _ ?_⟩; clear hK K
  refine walkT_step (fun K hK => ?_)
  go_simp
  refine ⟨_, fun _ => rfl, fun ky hky nky => hK _ _ ?_⟩; clear hK K
  have ne_ky_kx : ky ≠ kx := fun e => by subst e; simp [Gh.set] at nky
  have ne_kx_ky : kx ≠ ky := Ne.symm ne_ky_kx
  refine walkT_step (fun K hK => ?_)
  go_simp
  refine ⟨_, fun _ => rfl, fun kz hkz nkz => hK _ _ ?_⟩; clear hK K
  have ne_kz_kx : kz ≠ kx := fun e => by subst e; simp [Gh.set] at nkz
  have ne_kx_kz : kx ≠ kz := Ne.symm ne_kz_kx
  have ne_kz_ky : kz ≠ ky := fun e => by subst e; simp [Gh.set] at nkz
  have ne_ky_kz : ky ≠ kz := Ne.symm ne_kz_ky
  clear nkx nky nkz
  refine walkT_fill (k := kx) (ob := #[.int .i64 0, .int .i64 0]) (t := 23) (v := .agg #[.int .i64 (turnX ax ay q), .int .i64 (turnY ax ay q)]) rfl rfl rfl rfl ((Gh.set_ne _ _ ne_kx_kz).trans ((Gh.set_ne _ _ ne_kx_ky).trans (Gh.set_same _ _ _))) rfl (by kernel_rfl) rfl rfl ?_
  refine walkT_fill (k := ky) (ob := #[.int .i64 0, .int .i64 0]) (t := 23) (v := .agg #[.int .i64 (turnX bx by' q), .int .i64 (turnY bx by' q)]) rfl rfl rfl rfl ((Gh.set_ne _ _ ne_ky_kx).trans ((Gh.set_ne _ _ ne_ky_kz).trans (Gh.set_same _ _ _))) rfl (by kernel_rfl) rfl rfl ?_
  refine walkT_fill (k := kz) (ob := #[.int .i64 0, .int .i64 0]) (t := 23) (v := .agg #[.int .i64 (turnX cx cy q), .int .i64 (turnY cx cy q)]) rfl rfl rfl rfl ((Gh.set_ne _ _ ne_kz_ky).trans ((Gh.set_ne _ _ ne_kz_kx).trans (Gh.set_same _ _ _))) rfl (by kernel_rfl) rfl rfl ?_
  refine walkT_nil ?_
  intro w1 hc
  replace g0 := hc.at g0
  replace g1 := hc.at g1
  replace g2 := hc.at g2
  replace g3 := hc.at g3
  have g4 : w1.heap[kx]? = some (.cells #[.int .i64 (turnX ax ay q), .int .i64 (turnY ax ay q)] 23) := (hc.own kx _ true ((Gh.set_ne _ _ ne_kx_kz).trans ((Gh.set_ne _ _ ne_kx_ky).trans (Gh.set_same _ _ _)))).2
  have g5 : w1.heap[ky]? = some (.cells #[.int .i64 (turnX bx by' q), .int .i64 (turnY bx by' q)] 23) := (hc.own ky _ true ((Gh.set_ne _ _ ne_ky_kz).trans (Gh.set_same _ _ _))).2
  have g6 : w1.heap[kz]? = some (.cells #[.int .i64 (turnX cx cy q), .int .i64 (turnY cx cy q)] 23) := (hc.own kz _ true (Gh.set_same _ _ _)).2
  replace hb := hb.trans (hc.below.mono hb.size)
  clear hc f6 f7 f8 f9 f10 f11 f12 f13 f14 f15 f16 f17 hkx hky hkz W
  go_upto_region 3 with (fail)
  refine draws_hid (by kernel_rfl) (by kernel_rfl) (by kernel_rfl) (fun W hW ops hops => ?_)
  subst hW
  clear hops
  have f18 : ∀ x : Later W, x.w.cell? ⟨w.heap.size, 0, none⟩ = some (.int .i64 ax) := fun x => cell_of_block (Later.at g0 x) rfl
  have f19 : ∀ x : Later W, x.w.cell? ⟨w.heap.size, 1, none⟩ = some (.int .i64 ay) := fun x => cell_of_block (Later.at g0 x) rfl
  have f20 : ∀ x : Later W, x.w.cell? ⟨w.heap.size, 2, none⟩ = some (.int .i64 bx) := fun x => cell_of_block (Later.at g0 x) rfl
  have f21 : ∀ x : Later W, x.w.cell? ⟨w.heap.size, 3, none⟩ = some (.int .i64 by') := fun x => cell_of_block (Later.at g0 x) rfl
  have f22 : ∀ x : Later W, x.w.cell? ⟨w.heap.size, 4, none⟩ = some (.int .i64 cx) := fun x => cell_of_block (Later.at g0 x) rfl
  have f23 : ∀ x : Later W, x.w.cell? ⟨w.heap.size, 5, none⟩ = some (.int .i64 cy) := fun x => cell_of_block (Later.at g0 x) rfl
  have f24 : ∀ x : Later W, x.w.cell? ⟨ka, 0, none⟩ = some (.int .i64 ax) := fun x => cell_of_block (Later.at g1 x) rfl
  have f25 : ∀ x : Later W, x.w.cell? ⟨ka, 1, none⟩ = some (.int .i64 ay) := fun x => cell_of_block (Later.at g1 x) rfl
  have f26 : ∀ x : Later W, x.w.cell? ⟨kb, 0, none⟩ = some (.int .i64 bx) := fun x => cell_of_block (Later.at g2 x) rfl
  have f27 : ∀ x : Later W, x.w.cell? ⟨kb, 1, none⟩ = some (.int .i64 by') := fun x => cell_of_block (Later.at g2 x) rfl
  have f28 : ∀ x : Later W, x.w.cell? ⟨kc, 0, none⟩ = some (.int .i64 cx) := fun x => cell_of_block (Later.at g3 x) rfl
  have f29 : ∀ x : Later W, x.w.cell? ⟨kc, 1, none⟩ = some (.int .i64 cy) := fun x => cell_of_block (Later.at g3 x) rfl
  have f30 : ∀ x : Later W, x.w.cell? ⟨kx, 0, none⟩ = some (.int .i64 (turnX ax ay q)) := fun x => cell_of_block (Later.at g4 x) rfl
  have f31 : ∀ x : Later W, x.w.cell? ⟨kx, 1, none⟩ = some (.int .i64 (turnY ax ay q)) := fun x => cell_of_block (Later.at g4 x) rfl
  have f32 : ∀ x : Later W, x.w.cell? ⟨ky, 0, none⟩ = some (.int .i64 (turnX bx by' q)) := fun x => cell_of_block (Later.at g5 x) rfl
  have f33 : ∀ x : Later W, x.w.cell? ⟨ky, 1, none⟩ = some (.int .i64 (turnY bx by' q)) := fun x => cell_of_block (Later.at g5 x) rfl
  have f34 : ∀ x : Later W, x.w.cell? ⟨kz, 0, none⟩ = some (.int .i64 (turnX cx cy q)) := fun x => cell_of_block (Later.at g6 x) rfl
  have f35 : ∀ x : Later W, x.w.cell? ⟨kz, 1, none⟩ = some (.int .i64 (turnY cx cy q)) := fun x => cell_of_block (Later.at g6 x) rfl
  repeat (refine walkT_step (fun K hK => ?_); go_simp; first | (refine hK _ _ ?_; clear hK K) | (refine ⟨_, fun x => calm_eq2, ?_⟩; refine hK _ _ ?_; clear hK K) | (refine ⟨_, fun x => refturned_any _ _ _ _, ?_⟩; refine hK _ _ ?_; clear hK K))
  refine walkT_nil ?_
  intro w1 hc
  replace g0 := hc.at g0
  replace g1 := hc.at g1
  replace g2 := hc.at g2
  replace g3 := hc.at g3
  replace g4 := hc.at g4
  replace g5 := hc.at g5
  replace g6 := hc.at g6
  replace hb := hb.trans (hc.below.mono hb.size)
  clear hc f18 f19 f20 f21 f22 f23 f24 f25 f26 f27 f28 f29 f30 f31 f32 f33 f34 f35 W
  cases h : (mayB ax ay && mayB bx by' && mayB cx cy)
  ·
    cases h1 : mayB ax ay <;> cases h2 : mayB bx by' <;> cases h3 : mayB cx cy <;> rw [h1, h2, h3] at h <;> first | (exfalso; revert h; decide) | skip
    all_goals
      clear h
      go_upto_region 5 with (fail)
      refine plain_hid (fun W hW ops hops => ?_)
      subst hW
      have o3 : (ops[3]?).bind (fun x => x.dst) = some 35 := by rw [hops]; rfl
      have o8 : (ops[8]?).bind (fun x => x.dst) = some 40 := by rw [hops]; rfl
      clear hops
      have f36 : ∀ x : Later W, x.w.cell? ⟨w.heap.size, 0, none⟩ = some (.int .i64 ax) := fun x => cell_of_block (Later.at g0 x) rfl
      have f37 : ∀ x : Later W, x.w.cell? ⟨w.heap.size, 1, none⟩ = some (.int .i64 ay) := fun x => cell_of_block (Later.at g0 x) rfl
      have f38 : ∀ x : Later W, x.w.cell? ⟨w.heap.size, 2, none⟩ = some (.int .i64 bx) := fun x => cell_of_block (Later.at g0 x) rfl
      have f39 : ∀ x : Later W, x.w.cell? ⟨w.heap.size, 3, none⟩ = some (.int .i64 by') := fun x => cell_of_block (Later.at g0 x) rfl
      have f40 : ∀ x : Later W, x.w.cell? ⟨w.heap.size, 4, none⟩ = some (.int .i64 cx) := fun x => cell_of_block (Later.at g0 x) rfl
      have f41 : ∀ x : Later W, x.w.cell? ⟨w.heap.size, 5, none⟩ = some (.int .i64 cy) := fun x => cell_of_block (Later.at g0 x) rfl
      have f42 : ∀ x : Later W, x.w.cell? ⟨ka, 0, none⟩ = some (.int .i64 ax) := fun x => cell_of_block (Later.at g1 x) rfl
      have f43 : ∀ x : Later W, x.w.cell? ⟨ka, 1, none⟩ = some (.int .i64 ay) := fun x => cell_of_block (Later.at g1 x) rfl
      have f44 : ∀ x : Later W, x.w.cell? ⟨kb, 0, none⟩ = some (.int .i64 bx) := fun x => cell_of_block (Later.at g2 x) rfl
      have f45 : ∀ x : Later W, x.w.cell? ⟨kb, 1, none⟩ = some (.int .i64 by') := fun x => cell_of_block (Later.at g2 x) rfl
      have f46 : ∀ x : Later W, x.w.cell? ⟨kc, 0, none⟩ = some (.int .i64 cx) := fun x => cell_of_block (Later.at g3 x) rfl
      have f47 : ∀ x : Later W, x.w.cell? ⟨kc, 1, none⟩ = some (.int .i64 cy) := fun x => cell_of_block (Later.at g3 x) rfl
      have f48 : ∀ x : Later W, x.w.cell? ⟨kx, 0, none⟩ = some (.int .i64 (turnX ax ay q)) := fun x => cell_of_block (Later.at g4 x) rfl
      have f49 : ∀ x : Later W, x.w.cell? ⟨kx, 1, none⟩ = some (.int .i64 (turnY ax ay q)) := fun x => cell_of_block (Later.at g4 x) rfl
      have f50 : ∀ x : Later W, x.w.cell? ⟨ky, 0, none⟩ = some (.int .i64 (turnX bx by' q)) := fun x => cell_of_block (Later.at g5 x) rfl
      have f51 : ∀ x : Later W, x.w.cell? ⟨ky, 1, none⟩ = some (.int .i64 (turnY bx by' q)) := fun x => cell_of_block (Later.at g5 x) rfl
      have f52 : ∀ x : Later W, x.w.cell? ⟨kz, 0, none⟩ = some (.int .i64 (turnX cx cy q)) := fun x => cell_of_block (Later.at g6 x) rfl
      have f53 : ∀ x : Later W, x.w.cell? ⟨kz, 1, none⟩ = some (.int .i64 (turnY cx cy q)) := fun x => cell_of_block (Later.at g6 x) rfl
      repeat (refine walkT_step (fun K hK => ?_); go_simp; first | (refine hK _ _ ?_; clear hK K) | (refine ⟨_, fun x => calm_eq2, ?_⟩; refine hK _ _ ?_; clear hK K) | (refine ⟨_, fun x => refmay_any _ _ _, ?_⟩; refine hK _ _ ?_; clear hK K))
      refine walkT_nil ?_
      intro w1 hc
      replace g0 := hc.at g0
      replace g1 := hc.at g1
      replace g2 := hc.at g2
      replace g3 := hc.at g3
      replace g4 := hc.at g4
      replace g5 := hc.at g5
      replace g6 := hc.at g6
      replace hb := hb.trans (hc.below.mono hb.size)
      clear hc o3 o8 f36 f37 f38 f39 f40 f41 f42 f43 f44 f45 f46 f47 f48 f49 f50 f51 f52 f53 W
      go_wp2_with (go_at_call 13; refine (awake_any _).mono ?_; rintro e w' ⟨rfl, hB⟩)
      go_ret
      exact ⟨rfl, hb.trans (hB.mono hb.size)⟩
  ·
    have ⟨hE1, hE2, hE3, hE4, hE5, hE6, hE7, hE8⟩ := turn_facts ax ay bx by' cx cy q h
    simp only [Bool.and_eq_true] at h
    obtain ⟨⟨h1, h2⟩, h3⟩ := h
    go_upto_region 5 with (fail)
    refine plain_hid (fun W hW ops hops => ?_)
    subst hW
    have o3 : (ops[3]?).bind (fun x => x.dst) = some 35 := by rw [hops]; rfl
    have o8 : (ops[8]?).bind (fun x => x.dst) = some 40 := by rw [hops]; rfl
    clear hops
    have f36 : ∀ x : Later W, x.w.cell? ⟨w.heap.size, 0, none⟩ = some (.int .i64 ax) := fun x => cell_of_block (Later.at g0 x) rfl
    have f37 : ∀ x : Later W, x.w.cell? ⟨w.heap.size, 1, none⟩ = some (.int .i64 ay) := fun x => cell_of_block (Later.at g0 x) rfl
    have f38 : ∀ x : Later W, x.w.cell? ⟨w.heap.size, 2, none⟩ = some (.int .i64 bx) := fun x => cell_of_block (Later.at g0 x) rfl
    have f39 : ∀ x : Later W, x.w.cell? ⟨w.heap.size, 3, none⟩ = some (.int .i64 by') := fun x => cell_of_block (Later.at g0 x) rfl
    have f40 : ∀ x : Later W, x.w.cell? ⟨w.heap.size, 4, none⟩ = some (.int .i64 cx) := fun x => cell_of_block (Later.at g0 x) rfl
    have f41 : ∀ x : Later W, x.w.cell? ⟨w.heap.size, 5, none⟩ = some (.int .i64 cy) := fun x => cell_of_block (Later.at g0 x) rfl
    have f42 : ∀ x : Later W, x.w.cell? ⟨ka, 0, none⟩ = some (.int .i64 ax) := fun x => cell_of_block (Later.at g1 x) rfl
    have f43 : ∀ x : Later W, x.w.cell? ⟨ka, 1, none⟩ = some (.int .i64 ay) := fun x => cell_of_block (Later.at g1 x) rfl
    have f44 : ∀ x : Later W, x.w.cell? ⟨kb, 0, none⟩ = some (.int .i64 bx) := fun x => cell_of_block (Later.at g2 x) rfl
    have f45 : ∀ x : Later W, x.w.cell? ⟨kb, 1, none⟩ = some (.int .i64 by') := fun x => cell_of_block (Later.at g2 x) rfl
    have f46 : ∀ x : Later W, x.w.cell? ⟨kc, 0, none⟩ = some (.int .i64 cx) := fun x => cell_of_block (Later.at g3 x) rfl
    have f47 : ∀ x : Later W, x.w.cell? ⟨kc, 1, none⟩ = some (.int .i64 cy) := fun x => cell_of_block (Later.at g3 x) rfl
    have f48 : ∀ x : Later W, x.w.cell? ⟨kx, 0, none⟩ = some (.int .i64 (turnX ax ay q)) := fun x => cell_of_block (Later.at g4 x) rfl
    have f49 : ∀ x : Later W, x.w.cell? ⟨kx, 1, none⟩ = some (.int .i64 (turnY ax ay q)) := fun x => cell_of_block (Later.at g4 x) rfl
    have f50 : ∀ x : Later W, x.w.cell? ⟨ky, 0, none⟩ = some (.int .i64 (turnX bx by' q)) := fun x => cell_of_block (Later.at g5 x) rfl
    have f51 : ∀ x : Later W, x.w.cell? ⟨ky, 1, none⟩ = some (.int .i64 (turnY bx by' q)) := fun x => cell_of_block (Later.at g5 x) rfl
    have f52 : ∀ x : Later W, x.w.cell? ⟨kz, 0, none⟩ = some (.int .i64 (turnX cx cy q)) := fun x => cell_of_block (Later.at g6 x) rfl
    have f53 : ∀ x : Later W, x.w.cell? ⟨kz, 1, none⟩ = some (.int .i64 (turnY cx cy q)) := fun x => cell_of_block (Later.at g6 x) rfl
    repeat (refine walkT_step (fun K hK => ?_); go_simp; first | (refine hK _ _ ?_; clear hK K) | (refine ⟨_, fun x => calm_eq2, ?_⟩; refine hK _ _ ?_; clear hK K) | (refine ⟨_, fun x => refmay_any _ _ _, ?_⟩; refine hK _ _ ?_; clear hK K))
    refine walkT_nil ?_
    intro w1 hc
    replace g0 := hc.at g0
    replace g1 := hc.at g1
    replace g2 := hc.at g2
    replace g3 := hc.at g3
    replace g4 := hc.at g4
    replace g5 := hc.at g5
    replace g6 := hc.at g6
    replace hb := hb.trans (hc.below.mono hb.size)
    clear hc o3 o8 f36 f37 f38 f39 f40 f41 f42 f43 f44 f45 f46 f47 f48 f49 f50 f51 f52 f53 W
    go_upto_region 7 with (fail)
    refine plain_hid (fun W hW ops hops => ?_)
    subst hW
    clear hops
    have f54 : ∀ x : Later W, x.w.cell? ⟨w.heap.size, 0, none⟩ = some (.int .i64 ax) := fun x => cell_of_block (Later.at g0 x) rfl
    have f55 : ∀ x : Later W, x.w.cell? ⟨w.heap.size, 1, none⟩ = some (.int .i64 ay) := fun x => cell_of_block (Later.at g0 x) rfl
    have f56 : ∀ x : Later W, x.w.cell? ⟨w.heap.size, 2, none⟩ = some (.int .i64 bx) := fun x => cell_of_block (Later.at g0 x) rfl
    have f57 : ∀ x : Later W, x.w.cell? ⟨w.heap.size, 3, none⟩ = some (.int .i64 by') := fun x => cell_of_block (Later.at g0 x) rfl
    have f58 : ∀ x : Later W, x.w.cell? ⟨w.heap.size, 4, none⟩ = some (.int .i64 cx) := fun x => cell_of_block (Later.at g0 x) rfl
    have f59 : ∀ x : Later W, x.w.cell? ⟨w.heap.size, 5, none⟩ = some (.int .i64 cy) := fun x => cell_of_block (Later.at g0 x) rfl
    have f60 : ∀ x : Later W, x.w.cell? ⟨ka, 0, none⟩ = some (.int .i64 ax) := fun x => cell_of_block (Later.at g1 x) rfl
    have f61 : ∀ x : Later W, x.w.cell? ⟨ka, 1, none⟩ = some (.int .i64 ay) := fun x => cell_of_block (Later.at g1 x) rfl
    have f62 : ∀ x : Later W, x.w.cell? ⟨kb, 0, none⟩ = some (.int .i64 bx) := fun x => cell_of_block (Later.at g2 x) rfl
    have f63 : ∀ x : Later W, x.w.cell? ⟨kb, 1, none⟩ = some (.int .i64 by') := fun x => cell_of_block (Later.at g2 x) rfl
    have f64 : ∀ x : Later W, x.w.cell? ⟨kc, 0, none⟩ = some (.int .i64 cx) := fun x => cell_of_block (Later.at g3 x) rfl
    have f65 : ∀ x : Later W, x.w.cell? ⟨kc, 1, none⟩ = some (.int .i64 cy) := fun x => cell_of_block (Later.at g3 x) rfl
    have f66 : ∀ x : Later W, x.w.cell? ⟨kx, 0, none⟩ = some (.int .i64 (turnX ax ay q)) := fun x => cell_of_block (Later.at g4 x) rfl
    have f67 : ∀ x : Later W, x.w.cell? ⟨kx, 1, none⟩ = some (.int .i64 (turnY ax ay q)) := fun x => cell_of_block (Later.at g4 x) rfl
    have f68 : ∀ x : Later W, x.w.cell? ⟨ky, 0, none⟩ = some (.int .i64 (turnX bx by' q)) := fun x => cell_of_block (Later.at g5 x) rfl
    have f69 : ∀ x : Later W, x.w.cell? ⟨ky, 1, none⟩ = some (.int .i64 (turnY bx by' q)) := fun x => cell_of_block (Later.at g5 x) rfl
    have f70 : ∀ x : Later W, x.w.cell? ⟨kz, 0, none⟩ = some (.int .i64 (turnX cx cy q)) := fun x => cell_of_block (Later.at g6 x) rfl
    have f71 : ∀ x : Later W, x.w.cell? ⟨kz, 1, none⟩ = some (.int .i64 (turnY cx cy q)) := fun x => cell_of_block (Later.at g6 x) rfl
    repeat (refine walkT_step (fun K hK => ?_); go_simp; first | (refine hK _ _ ?_; clear hK K) | (refine ⟨_, fun x => calm_eq2, ?_⟩; refine hK _ _ ?_; clear hK K) | (refine ⟨_, fun x => cross_any _ _ _ _ _ _ _, ?_⟩; refine hK _ _ ?_; clear hK K))
    refine walkT_nil ?_
    intro w1 hc
    replace g0 := hc.at g0
    replace g1 := hc.at g1
    replace g2 := hc.at g2
    replace g3 := hc.at g3
    replace g4 := hc.at g4
    replace g5 := hc.at g5
    replace g6 := hc.at g6
    replace hb := hb.trans (hc.below.mono hb.size)
    clear hc f54 f55 f56 f57 f58 f59 f60 f61 f62 f63 f64 f65 f66 f67 f68 f69 f70 f71 W
    go_upto_region 8 with (fail)
    refine draws_hid (by kernel_rfl) (by kernel_rfl) (by kernel_rfl) (fun W hW ops hops => ?_)
    subst hW
    have o7 : (ops[7]?).bind (fun x => x.dst) = some 57 := by rw [hops]; rfl
    have o15 : (ops[15]?).bind (fun x => x.dst) = some 65 := by rw [hops]; rfl
    have o23 : (ops[23]?).bind (fun x => x.dst) = some 73 := by rw [hops]; rfl
    have o32 : (ops[32]?).bind (fun x => x.dst) = some 82 := by rw [hops]; rfl
    have o42 : (ops[42]?).bind (fun x => x.dst) = some 92 := by rw [hops]; rfl
    clear hops
    have f72 : ∀ x : Later W, x.w.cell? ⟨w.heap.size, 0, none⟩ = some (.int .i64 ax) := fun x => cell_of_block (Later.at g0 x) rfl
    have f73 : ∀ x : Later W, x.w.cell? ⟨w.heap.size, 1, none⟩ = some (.int .i64 ay) := fun x => cell_of_block (Later.at g0 x) rfl
    have f74 : ∀ x : Later W, x.w.cell? ⟨w.heap.size, 2, none⟩ = some (.int .i64 bx) := fun x => cell_of_block (Later.at g0 x) rfl
    have f75 : ∀ x : Later W, x.w.cell? ⟨w.heap.size, 3, none⟩ = some (.int .i64 by') := fun x => cell_of_block (Later.at g0 x) rfl
    have f76 : ∀ x : Later W, x.w.cell? ⟨w.heap.size, 4, none⟩ = some (.int .i64 cx) := fun x => cell_of_block (Later.at g0 x) rfl
    have f77 : ∀ x : Later W, x.w.cell? ⟨w.heap.size, 5, none⟩ = some (.int .i64 cy) := fun x => cell_of_block (Later.at g0 x) rfl
    have f78 : ∀ x : Later W, x.w.cell? ⟨ka, 0, none⟩ = some (.int .i64 ax) := fun x => cell_of_block (Later.at g1 x) rfl
    have f79 : ∀ x : Later W, x.w.cell? ⟨ka, 1, none⟩ = some (.int .i64 ay) := fun x => cell_of_block (Later.at g1 x) rfl
    have f80 : ∀ x : Later W, x.w.cell? ⟨kb, 0, none⟩ = some (.int .i64 bx) := fun x => cell_of_block (Later.at g2 x) rfl
    have f81 : ∀ x : Later W, x.w.cell? ⟨kb, 1, none⟩ = some (.int .i64 by') := fun x => cell_of_block (Later.at g2 x) rfl
    have f82 : ∀ x : Later W, x.w.cell? ⟨kc, 0, none⟩ = some (.int .i64 cx) := fun x => cell_of_block (Later.at g3 x) rfl
    have f83 : ∀ x : Later W, x.w.cell? ⟨kc, 1, none⟩ = some (.int .i64 cy) := fun x => cell_of_block (Later.at g3 x) rfl
    have f84 : ∀ x : Later W, x.w.cell? ⟨kx, 0, none⟩ = some (.int .i64 (turnX ax ay q)) := fun x => cell_of_block (Later.at g4 x) rfl
    have f85 : ∀ x : Later W, x.w.cell? ⟨kx, 1, none⟩ = some (.int .i64 (turnY ax ay q)) := fun x => cell_of_block (Later.at g4 x) rfl
    have f86 : ∀ x : Later W, x.w.cell? ⟨ky, 0, none⟩ = some (.int .i64 (turnX bx by' q)) := fun x => cell_of_block (Later.at g5 x) rfl
    have f87 : ∀ x : Later W, x.w.cell? ⟨ky, 1, none⟩ = some (.int .i64 (turnY bx by' q)) := fun x => cell_of_block (Later.at g5 x) rfl
    have f88 : ∀ x : Later W, x.w.cell? ⟨kz, 0, none⟩ = some (.int .i64 (turnX cx cy q)) := fun x => cell_of_block (Later.at g6 x) rfl
    have f89 : ∀ x : Later W, x.w.cell? ⟨kz, 1, none⟩ = some (.int .i64 (turnY cx cy q)) := fun x => cell_of_block (Later.at g6 x) rfl
    repeat (refine walkT_step (fun K hK => ?_); go_simp; first | (refine hK _ _ ?_; clear hK K) | (refine ⟨_, fun x => calm_eq2, ?_⟩; refine hK _ _ ?_; clear hK K) | (refine ⟨_, fun x => cross_any _ _ _ _ _ _ _, ?_⟩; refine hK _ _ ?_; clear hK K) | (refine ⟨_, fun x => far_any _ _ _ _ _, ?_⟩; refine hK _ _ ?_; clear hK K) | (refine ⟨_, fun x => awake_any _, ?_⟩; refine hK _ _ ?_; clear hK K))
    refine walkT_nil ?_
    intro w2 hc
    replace g0 := hc.at g0
    replace g1 := hc.at g1
    replace g2 := hc.at g2
    replace g3 := hc.at g3
    replace g4 := hc.at g4
    replace g5 := hc.at g5
    replace g6 := hc.at g6
    replace hb := hb.trans (hc.below.mono hb.size)
    clear hc o7 o15 o23 o32 o42 f72 f73 f74 f75 f76 f77 f78 f79 f80 f81 f82 f83 f84 f85 f86 f87 f88 f89 W
    go_wp2
    go_ret
    exact ⟨rfl, hb⟩


theorem tArr : Try.prog.cellTypes Try.prog.depth 24 = some [3, 3, 3, 3, 3, 3] := by kernel_rfl
theorem cArr : Try.prog.cellsOf 24 = 6 := by kernel_rfl
theorem uArr : ∀ u, u ∈ ([3, 3, 3, 3, 3, 3] : List TypeId) → Try.prog.underlying u = some (.int .i64) := by
  intro u hu; simp at hu; subst hu; exact Try.underlying3


namespace pointTurns
open Go.ChangeShapes Go.WideShapes Go.ChangeAt
theorem spec_is (H : Type) : ∀ ds : List (DataW H), ds.length = 2 → Rows.pointTurnsSpec.fn H ds = { results := [.lit (.bool true)], args := ds }
  | [], h => by cases h
  | [_], h => by cases h
  | [_, _], _ => rfl
  | _ :: _ :: _ :: _, h => by simp at h

theorem args_of {args : Array Value} (h : args.size = 2) : ∃ v0 v1, args = #[v0, v1] := by
  refine ⟨args[0], args[1], ?_⟩
  apply Array.ext
  · simpa using h
  · intro i h1 h2
    match i, h1 with
    | 0, _ => rfl
    | 1, _ => rfl
    | m + 2, hm => exact absurd hm (by omega)

set_option maxRecDepth 100000 in
theorem over : Rows.pointTurnsRow.holds Try.pinned (OpenSpec.ofChange Rows.pointTurnsSpec) :=
  OpenClaim.holds_of_wide 3 Try.f3 rfl rfl rfl rfl rfl rfl rfl ⟨rfl, rfl, rfl, rfl, rfl⟩ rfl rfl rfl rfl rfl (by kernel_rfl) Try.func3 (by kernel_rfl)
    (of_decide_eq_true (by kernel_rfl)) (by unfold Func.isWrapper; first | (rw [if_pos (by decide +kernel)]; kernel_rfl) | (rw [if_neg (by decide +kernel)]; exact ⟨rfl, rfl⟩))
    (fun os started H enc _ => Kit.lifted (C := Try.checked) (tb := 4) (n := 2) (by kernel_rfl) (by kernel_rfl) (by kernel_rfl) Try.func3 rfl (by kernel_rfl) Try.underlying4 (by kernel_rfl)
      (by
        have e : Try.f3.params.toList = [24, 3] := by rw [Try.params3]
        rw [e]
        intro t ht
        simp only [List.mem_cons, List.not_mem_nil, or_false] at ht
        rcases ht with rfl | rfl <;> exact ⟨by kernel_rfl, of_decide_eq_true (by kernel_rfl)⟩)
      spec_is
      (by
        intro W base args H enc ds p hn hval hA hfz hz
        obtain ⟨v0, v1, rfl⟩ := args_of hn
        rw [Try.params3] at hval
        have k0 := hval 0 24 v0 rfl rfl
        have k1 := hval 1 3 v1 rfl rfl
        clear hval
        obtain ⟨ax, ay, bx, by', cx, cy, rfl⟩ := Kit.agg6_of Try.underlying24 cArr tArr uArr k0
        obtain ⟨q, rfl, _⟩ := Kit.int_of Try.underlying3 k1
        exact turns_all ax ay bx by' cx cy q W)
      os started H enc
      (ChangeSpec.witness6 (enc := enc) (C := Try.checked) false ⟨#[], #[.agg #[.int .i64 0, .int .i64 0, .int .i64 0, .int .i64 0, .int .i64 0, .int .i64 0], .int .i64 0], []⟩ 8 (by kernel_rfl) (by kernel_rfl) (by kernel_rfl) (by kernel_rfl)))
end pointTurns

/-- THE STATEMENT. -/
theorem pointTurns_holds : Rows.PointTurnsSaid := pointTurns.over
#print axioms pointTurns_holds

end Go.Proofs.Ytcpjgcpclekjkaa
