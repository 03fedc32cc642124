/-
  PROVED: PointBoxes: which lines there may be, any one's box, and which boxes are apart, as the document's answer has it. CONDITIONS: none: for every two lines.
-/
import Derived.Test.YtcpjgcpclekjkaaBoxes2
import Derived.Test.YtcpjgcpclekjkaaKit
import Derived.Lib.Hide
namespace Go.Proofs.Ytcpjgcpclekjkaa
open Go.RowKit Go.Proofs.Ytcpjgcpclekjkaa.Tame
set_option maxHeartbeats 400000


def commonB (ax ay bx by' cx cy dx dy : Int) : Bool := decide (minI ax bx ≤ maxI cx dx) && decide (minI cx dx ≤ maxI ax bx) && decide (minI ay by' ≤ maxI cy dy) && decide (minI cy dy ≤ maxI ay by')
theorem not_dec (a b : Int) : decide (a < b) = !decide (b ≤ a) := by
  by_cases h : b ≤ a
  · rw [decide_eq_true h]; simpa using h
  · rw [decide_eq_false h]; simpa using h
theorem apart_common (ax ay bx by' cx cy dx dy : Int) (h1 : lineB ax ay bx by' = true) (h2 : lineB cx cy dx dy = true) : apartB ax ay bx by' cx cy dx dy = !commonB ax ay bx by' cx cy dx dy := by
  unfold apartB commonB
  rw [h1, h2, not_dec, not_dec, not_dec, not_dec]
  cases decide (minI ax bx ≤ maxI cx dx) <;> cases decide (minI cx dx ≤ maxI ax bx) <;> cases decide (minI ay by' ≤ maxI cy dy) <;> cases decide (minI cy dy ≤ maxI ay by') <;> rfl
theorem line_parts {ax ay bx by' : Int} (h : lineB ax ay bx by' = true) : okI ax ∧ okI ay ∧ okI bx ∧ okI by' := by
  unfold lineB at h
  simp only [Bool.and_eq_true] at h
  exact ⟨mayB_x h.1.1, mayB_y h.1.1, mayB_x h.1.2, mayB_y h.1.2⟩


set_option maxHeartbeats 2000000 in
theorem boxes_no (ax ay bx by' cx cy dx dy : Int) (w : World) (h1 : lineB ax ay bx by' = false) : Calls Try.prog 5 #[.agg #[.int .i64 ax, .int .i64 ay, .int .i64 bx, .int .i64 by'], .agg #[.int .i64 cx, .int .i64 cy, .int .i64 dx, .int .i64 dy]] w fun e w' => e = .returned (.bool true) ∧ Below w.heap.size w w' := by
  go_enter Try.func5, Try.ntmps5
  go_upto_region 1 with (fail)
  refine plain_hid (fun W hW ops hops => ?_)
  have hb : Below w.heap.size w W := by rw [hW]; go_grown
  have hz : w.heap.size + 2 ≤ W.heap.size := by rw [hW]; simp
  have g0 : W.heap[w.heap.size]? = some (.cells #[.int .i64 ax, .int .i64 ay, .int .i64 bx, .int .i64 by'] 34) := by rw [hW]; exact heap_alloc_lt (heap_alloc_is (rfl))
  have g1 : W.heap[w.heap.size + 1]? = some (.cells #[.int .i64 cx, .int .i64 cy, .int .i64 dx, .int .i64 dy] 34) := by rw [hW]; exact heap_alloc_is (by simp)
  clear hW
  clear hops
  have f0 : ∀ x : Later W [], x.w.cell? ⟨w.heap.size, 0, none⟩ = some (.int .i64 ax) := fun x => cell_of_block (Later.at0 g0 x) rfl
  have f1 : ∀ x : Later W [], x.w.cell? ⟨w.heap.size, 1, none⟩ = some (.int .i64 ay) := fun x => cell_of_block (Later.at0 g0 x) rfl
  have f2 : ∀ x : Later W [], x.w.cell? ⟨w.heap.size, 2, none⟩ = some (.int .i64 bx) := fun x => cell_of_block (Later.at0 g0 x) rfl
  have f3 : ∀ x : Later W [], x.w.cell? ⟨w.heap.size, 3, none⟩ = some (.int .i64 by') := fun x => cell_of_block (Later.at0 g0 x) rfl
  have f4 : ∀ x : Later W [], x.w.cell? ⟨w.heap.size + 1, 0, none⟩ = some (.int .i64 cx) := fun x => cell_of_block (Later.at0 g1 x) rfl
  have f5 : ∀ x : Later W [], x.w.cell? ⟨w.heap.size + 1, 1, none⟩ = some (.int .i64 cy) := fun x => cell_of_block (Later.at0 g1 x) rfl
  have f6 : ∀ x : Later W [], x.w.cell? ⟨w.heap.size + 1, 2, none⟩ = some (.int .i64 dx) := fun x => cell_of_block (Later.at0 g1 x) rfl
  have f7 : ∀ x : Later W [], x.w.cell? ⟨w.heap.size + 1, 3, none⟩ = some (.int .i64 dy) := fun x => cell_of_block (Later.at0 g1 x) rfl
  repeat (refine walkT_step (fun K hK => ?_); go_simp; first | (refine hK _ _ ?_; clear hK K) | (refine ⟨_, fun x => calm_ne2, ?_⟩; refine hK _ _ ?_; clear hK K) | (refine ⟨_, fun x => calm_eq2, ?_⟩; refine hK _ _ ?_; clear hK K) | (refine ⟨_, fun x => box_any _ _ _ _ _, ?_⟩; refine hK _ _ ?_; clear hK K))
  refine walkT_step (fun K hK => ?_)
  go_simp
  refine ⟨_, fun _ => rfl, fun k5 hk5 nk5 => hK _ _ ?_⟩; clear hK K
  refine walkT_step (fun K hK => ?_)
  go_simp
  refine ⟨_, fun _ => rfl, fun k6 hk6 nk6 => hK _ _ ?_⟩; clear hK K
  have ne_k6_k5 : k6 ≠ k5 := fun e => by subst e; simp [Gh.set] at nk6
  have ne_k5_k6 : k5 ≠ k6 := Ne.symm ne_k6_k5
  clear nk5 nk6
  refine walkT_fill (k := k5) (ob := #[.int .i64 0, .int .i64 0]) (t := 23) (v := .agg #[.int .i64 (bminI ax ay bx by' (minI ax bx)), .int .i64 (bminI ax ay bx by' (minI ay by'))]) rfl rfl rfl rfl ((Gh.set_ne _ _ ne_k5_k6).trans (Gh.set_same _ _ _)) rfl (by kernel_rfl) rfl rfl ?_
  refine walkT_fill (k := k6) (ob := #[.int .i64 0, .int .i64 0]) (t := 23) (v := .agg #[.int .i64 (bminI ax ay bx by' (maxI ax bx)), .int .i64 (bminI ax ay bx by' (maxI ay by'))]) rfl rfl rfl rfl ((Gh.set_ne _ _ ne_k6_k5).trans (Gh.set_same _ _ _)) rfl (by kernel_rfl) rfl rfl ?_
  refine walkT_nil ?_
  intro w1 hc
  replace g0 := hc.at0 g0
  replace g1 := hc.at0 g1
  have g2 : w1.heap[k5]? = some (.cells #[.int .i64 (bminI ax ay bx by' (minI ax bx)), .int .i64 (bminI ax ay bx by' (minI ay by'))] 23) := (hc.own (k5) _ true ((Gh.set_ne _ _ ne_k5_k6).trans (Gh.set_same _ _ _))).2
  have g3 : w1.heap[k6]? = some (.cells #[.int .i64 (bminI ax ay bx by' (maxI ax bx)), .int .i64 (bminI ax ay bx by' (maxI ay by'))] 23) := (hc.own (k6) _ true (Gh.set_same _ _ _)).2
  replace hb := hb.trans (hc.below.mono hb.size)
  replace hk5 := Nat.le_trans hz hk5
  replace hk6 := Nat.le_trans hz hk6
  replace hz := Nat.le_trans hz hc.kept.size
  clear hc f0 f1 f2 f3 f4 f5 f6 f7 W
  go_upto_region 2 with (fail)
  refine plain_hid (fun W hW ops hops => ?_)
  subst hW
  clear hops
  have f8 : ∀ x : Later W [], x.w.cell? ⟨w.heap.size, 0, none⟩ = some (.int .i64 ax) := fun x => cell_of_block (Later.at0 g0 x) rfl
  have f9 : ∀ x : Later W [], x.w.cell? ⟨w.heap.size, 1, none⟩ = some (.int .i64 ay) := fun x => cell_of_block (Later.at0 g0 x) rfl
  have f10 : ∀ x : Later W [], x.w.cell? ⟨w.heap.size, 2, none⟩ = some (.int .i64 bx) := fun x => cell_of_block (Later.at0 g0 x) rfl
  have f11 : ∀ x : Later W [], x.w.cell? ⟨w.heap.size, 3, none⟩ = some (.int .i64 by') := fun x => cell_of_block (Later.at0 g0 x) rfl
  have f12 : ∀ x : Later W [], x.w.cell? ⟨w.heap.size + 1, 0, none⟩ = some (.int .i64 cx) := fun x => cell_of_block (Later.at0 g1 x) rfl
  have f13 : ∀ x : Later W [], x.w.cell? ⟨w.heap.size + 1, 1, none⟩ = some (.int .i64 cy) := fun x => cell_of_block (Later.at0 g1 x) rfl
  have f14 : ∀ x : Later W [], x.w.cell? ⟨w.heap.size + 1, 2, none⟩ = some (.int .i64 dx) := fun x => cell_of_block (Later.at0 g1 x) rfl
  have f15 : ∀ x : Later W [], x.w.cell? ⟨w.heap.size + 1, 3, none⟩ = some (.int .i64 dy) := fun x => cell_of_block (Later.at0 g1 x) rfl
  have f16 : ∀ x : Later W [], x.w.cell? ⟨k5, 0, none⟩ = some (.int .i64 (bminI ax ay bx by' (minI ax bx))) := fun x => cell_of_block (Later.at0 g2 x) rfl
  have f17 : ∀ x : Later W [], x.w.cell? ⟨k5, 1, none⟩ = some (.int .i64 (bminI ax ay bx by' (minI ay by'))) := fun x => cell_of_block (Later.at0 g2 x) rfl
  have f18 : ∀ x : Later W [], x.w.cell? ⟨k6, 0, none⟩ = some (.int .i64 (bminI ax ay bx by' (maxI ax bx))) := fun x => cell_of_block (Later.at0 g3 x) rfl
  have f19 : ∀ x : Later W [], x.w.cell? ⟨k6, 1, none⟩ = some (.int .i64 (bminI ax ay bx by' (maxI ay by'))) := fun x => cell_of_block (Later.at0 g3 x) rfl
  repeat (refine walkT_step (fun K hK => ?_); go_simp; first | (refine hK _ _ ?_; clear hK K) | (refine ⟨_, fun x => calm_ne2, ?_⟩; refine hK _ _ ?_; clear hK K) | (refine ⟨_, fun x => calm_eq2, ?_⟩; refine hK _ _ ?_; clear hK K) | (refine ⟨_, fun x => line_any _ _ _ _ _, ?_⟩; refine hK _ _ ?_; clear hK K) | (refine ⟨_, fun x => refline_any _ _ _ _ _, ?_⟩; refine hK _ _ ?_; clear hK K) | (refine ⟨_, fun x => apart_any _ _ _ _ _ _ _ _ _, ?_⟩; refine hK _ _ ?_; clear hK K) | (refine ⟨_, fun x => awake_any _, ?_⟩; refine hK _ _ ?_; clear hK K))
  refine walkT_nil ?_
  intro w1 hc
  replace g0 := hc.at0 g0
  replace g1 := hc.at0 g1
  replace g2 := hc.at0 g2
  replace g3 := hc.at0 g3
  replace hb := hb.trans (hc.below.mono hb.size)
  replace hz := Nat.le_trans hz hc.kept.size
  clear hc f8 f9 f10 f11 f12 f13 f14 f15 f16 f17 f18 f19 W
  have e0 : bminI ax ay bx by' (minI ax bx) = 0 := if_neg (by rw [h1]; decide)
  have e1 : bminI ax ay bx by' (minI ay by') = 0 := if_neg (by rw [h1]; decide)
  have e2 : bminI ax ay bx by' (maxI ax bx) = 0 := if_neg (by rw [h1]; decide)
  have e3 : bminI ax ay bx by' (maxI ay by') = 0 := if_neg (by rw [h1]; decide)
  go_upto_region 3 with (fail)
  refine plain_hid (fun W hW ops hops => ?_)
  subst hW
  have o4 : (ops[4]?).bind (fun x => x.dst) = some 24 := by rw [hops]; rfl
  have o7 : (ops[7]?).bind (fun x => x.dst) = some 27 := by rw [hops]; rfl
  have o11 : (ops[11]?).bind (fun x => x.dst) = some 31 := by rw [hops]; rfl
  clear hops
  have f20 : ∀ x : Later W [], x.w.cell? ⟨w.heap.size, 0, none⟩ = some (.int .i64 ax) := fun x => cell_of_block (Later.at0 g0 x) rfl
  have f21 : ∀ x : Later W [], x.w.cell? ⟨w.heap.size, 1, none⟩ = some (.int .i64 ay) := fun x => cell_of_block (Later.at0 g0 x) rfl
  have f22 : ∀ x : Later W [], x.w.cell? ⟨w.heap.size, 2, none⟩ = some (.int .i64 bx) := fun x => cell_of_block (Later.at0 g0 x) rfl
  have f23 : ∀ x : Later W [], x.w.cell? ⟨w.heap.size, 3, none⟩ = some (.int .i64 by') := fun x => cell_of_block (Later.at0 g0 x) rfl
  have f24 : ∀ x : Later W [], x.w.cell? ⟨w.heap.size + 1, 0, none⟩ = some (.int .i64 cx) := fun x => cell_of_block (Later.at0 g1 x) rfl
  have f25 : ∀ x : Later W [], x.w.cell? ⟨w.heap.size + 1, 1, none⟩ = some (.int .i64 cy) := fun x => cell_of_block (Later.at0 g1 x) rfl
  have f26 : ∀ x : Later W [], x.w.cell? ⟨w.heap.size + 1, 2, none⟩ = some (.int .i64 dx) := fun x => cell_of_block (Later.at0 g1 x) rfl
  have f27 : ∀ x : Later W [], x.w.cell? ⟨w.heap.size + 1, 3, none⟩ = some (.int .i64 dy) := fun x => cell_of_block (Later.at0 g1 x) rfl
  have f28 : ∀ x : Later W [], x.w.cell? ⟨k5, 0, none⟩ = some (.int .i64 (bminI ax ay bx by' (minI ax bx))) := fun x => cell_of_block (Later.at0 g2 x) rfl
  have f29 : ∀ x : Later W [], x.w.cell? ⟨k5, 1, none⟩ = some (.int .i64 (bminI ax ay bx by' (minI ay by'))) := fun x => cell_of_block (Later.at0 g2 x) rfl
  have f30 : ∀ x : Later W [], x.w.cell? ⟨k6, 0, none⟩ = some (.int .i64 (bminI ax ay bx by' (maxI ax bx))) := fun x => cell_of_block (Later.at0 g3 x) rfl
  have f31 : ∀ x : Later W [], x.w.cell? ⟨k6, 1, none⟩ = some (.int .i64 (bminI ax ay bx by' (maxI ay by'))) := fun x => cell_of_block (Later.at0 g3 x) rfl
  repeat (refine walkT_step (fun K hK => ?_); go_simp; first | (refine hK _ _ ?_; clear hK K) | (refine ⟨_, fun x => calm_ne2, ?_⟩; refine hK _ _ ?_; clear hK K) | (refine ⟨_, fun x => calm_eq2, ?_⟩; refine hK _ _ ?_; clear hK K) | (refine ⟨_, fun x => line_any _ _ _ _ _, ?_⟩; refine hK _ _ ?_; clear hK K) | (refine ⟨_, fun x => refline_any _ _ _ _ _, ?_⟩; refine hK _ _ ?_; clear hK K) | (refine ⟨_, fun x => apart_any _ _ _ _ _ _ _ _ _, ?_⟩; refine hK _ _ ?_; clear hK K) | (refine ⟨_, fun x => awake_any _, ?_⟩; refine hK _ _ ?_; clear hK K))
  refine walkT_nil ?_
  intro w1 hc
  replace g0 := hc.at0 g0
  replace g1 := hc.at0 g1
  replace g2 := hc.at0 g2
  replace g3 := hc.at0 g3
  replace hb := hb.trans (hc.below.mono hb.size)
  replace hz := Nat.le_trans hz hc.kept.size
  clear hc o4 o7 o11 f20 f21 f22 f23 f24 f25 f26 f27 f28 f29 f30 f31 W
  go_upto_region 5 with (fail)
  refine plain_hid (fun W hW ops hops => ?_)
  subst hW
  have o2 : (ops[2]?).bind (fun x => x.dst) = some 40 := by rw [hops]; rfl
  clear hops
  have f32 : ∀ x : Later W [], x.w.cell? ⟨w.heap.size, 0, none⟩ = some (.int .i64 ax) := fun x => cell_of_block (Later.at0 g0 x) rfl
  have f33 : ∀ x : Later W [], x.w.cell? ⟨w.heap.size, 1, none⟩ = some (.int .i64 ay) := fun x => cell_of_block (Later.at0 g0 x) rfl
  have f34 : ∀ x : Later W [], x.w.cell? ⟨w.heap.size, 2, none⟩ = some (.int .i64 bx) := fun x => cell_of_block (Later.at0 g0 x) rfl
  have f35 : ∀ x : Later W [], x.w.cell? ⟨w.heap.size, 3, none⟩ = some (.int .i64 by') := fun x => cell_of_block (Later.at0 g0 x) rfl
  have f36 : ∀ x : Later W [], x.w.cell? ⟨w.heap.size + 1, 0, none⟩ = some (.int .i64 cx) := fun x => cell_of_block (Later.at0 g1 x) rfl
  have f37 : ∀ x : Later W [], x.w.cell? ⟨w.heap.size + 1, 1, none⟩ = some (.int .i64 cy) := fun x => cell_of_block (Later.at0 g1 x) rfl
  have f38 : ∀ x : Later W [], x.w.cell? ⟨w.heap.size + 1, 2, none⟩ = some (.int .i64 dx) := fun x => cell_of_block (Later.at0 g1 x) rfl
  have f39 : ∀ x : Later W [], x.w.cell? ⟨w.heap.size + 1, 3, none⟩ = some (.int .i64 dy) := fun x => cell_of_block (Later.at0 g1 x) rfl
  have f40 : ∀ x : Later W [], x.w.cell? ⟨k5, 0, none⟩ = some (.int .i64 (bminI ax ay bx by' (minI ax bx))) := fun x => cell_of_block (Later.at0 g2 x) rfl
  have f41 : ∀ x : Later W [], x.w.cell? ⟨k5, 1, none⟩ = some (.int .i64 (bminI ax ay bx by' (minI ay by'))) := fun x => cell_of_block (Later.at0 g2 x) rfl
  have f42 : ∀ x : Later W [], x.w.cell? ⟨k6, 0, none⟩ = some (.int .i64 (bminI ax ay bx by' (maxI ax bx))) := fun x => cell_of_block (Later.at0 g3 x) rfl
  have f43 : ∀ x : Later W [], x.w.cell? ⟨k6, 1, none⟩ = some (.int .i64 (bminI ax ay bx by' (maxI ay by'))) := fun x => cell_of_block (Later.at0 g3 x) rfl
  repeat (refine walkT_step (fun K hK => ?_); go_simp; first | (refine hK _ _ ?_; clear hK K) | (refine ⟨_, fun x => calm_ne2, ?_⟩; refine hK _ _ ?_; clear hK K) | (refine ⟨_, fun x => calm_eq2, ?_⟩; refine hK _ _ ?_; clear hK K) | (refine ⟨_, fun x => line_any _ _ _ _ _, ?_⟩; refine hK _ _ ?_; clear hK K) | (refine ⟨_, fun x => refline_any _ _ _ _ _, ?_⟩; refine hK _ _ ?_; clear hK K) | (refine ⟨_, fun x => apart_any _ _ _ _ _ _ _ _ _, ?_⟩; refine hK _ _ ?_; clear hK K) | (refine ⟨_, fun x => awake_any _, ?_⟩; refine hK _ _ ?_; clear hK K))
  refine walkT_nil ?_
  intro w1 hc
  replace g0 := hc.at0 g0
  replace g1 := hc.at0 g1
  replace g2 := hc.at0 g2
  replace g3 := hc.at0 g3
  replace hb := hb.trans (hc.below.mono hb.size)
  replace hz := Nat.le_trans hz hc.kept.size
  clear hc o2 f32 f33 f34 f35 f36 f37 f38 f39 f40 f41 f42 f43 W
  have ha : apartB ax ay bx by' cx cy dx dy = false := by unfold apartB; rw [h1]; rfl
  go_upto_region 6 with (fail)
  refine plain_hid (fun W hW ops hops => ?_)
  subst hW
  have o4 : (ops[4]?).bind (fun x => x.dst) = some 49 := by rw [hops]; rfl
  clear hops
  have f44 : ∀ x : Later W [], x.w.cell? ⟨w.heap.size, 0, none⟩ = some (.int .i64 ax) := fun x => cell_of_block (Later.at0 g0 x) rfl
  have f45 : ∀ x : Later W [], x.w.cell? ⟨w.heap.size, 1, none⟩ = some (.int .i64 ay) := fun x => cell_of_block (Later.at0 g0 x) rfl
  have f46 : ∀ x : Later W [], x.w.cell? ⟨w.heap.size, 2, none⟩ = some (.int .i64 bx) := fun x => cell_of_block (Later.at0 g0 x) rfl
  have f47 : ∀ x : Later W [], x.w.cell? ⟨w.heap.size, 3, none⟩ = some (.int .i64 by') := fun x => cell_of_block (Later.at0 g0 x) rfl
  have f48 : ∀ x : Later W [], x.w.cell? ⟨w.heap.size + 1, 0, none⟩ = some (.int .i64 cx) := fun x => cell_of_block (Later.at0 g1 x) rfl
  have f49 : ∀ x : Later W [], x.w.cell? ⟨w.heap.size + 1, 1, none⟩ = some (.int .i64 cy) := fun x => cell_of_block (Later.at0 g1 x) rfl
  have f50 : ∀ x : Later W [], x.w.cell? ⟨w.heap.size + 1, 2, none⟩ = some (.int .i64 dx) := fun x => cell_of_block (Later.at0 g1 x) rfl
  have f51 : ∀ x : Later W [], x.w.cell? ⟨w.heap.size + 1, 3, none⟩ = some (.int .i64 dy) := fun x => cell_of_block (Later.at0 g1 x) rfl
  have f52 : ∀ x : Later W [], x.w.cell? ⟨k5, 0, none⟩ = some (.int .i64 (bminI ax ay bx by' (minI ax bx))) := fun x => cell_of_block (Later.at0 g2 x) rfl
  have f53 : ∀ x : Later W [], x.w.cell? ⟨k5, 1, none⟩ = some (.int .i64 (bminI ax ay bx by' (minI ay by'))) := fun x => cell_of_block (Later.at0 g2 x) rfl
  have f54 : ∀ x : Later W [], x.w.cell? ⟨k6, 0, none⟩ = some (.int .i64 (bminI ax ay bx by' (maxI ax bx))) := fun x => cell_of_block (Later.at0 g3 x) rfl
  have f55 : ∀ x : Later W [], x.w.cell? ⟨k6, 1, none⟩ = some (.int .i64 (bminI ax ay bx by' (maxI ay by'))) := fun x => cell_of_block (Later.at0 g3 x) rfl
  repeat (refine walkT_step (fun K hK => ?_); go_simp; first | (refine hK _ _ ?_; clear hK K) | (refine ⟨_, fun x => calm_ne2, ?_⟩; refine hK _ _ ?_; clear hK K) | (refine ⟨_, fun x => calm_eq2, ?_⟩; refine hK _ _ ?_; clear hK K) | (refine ⟨_, fun x => line_any _ _ _ _ _, ?_⟩; refine hK _ _ ?_; clear hK K) | (refine ⟨_, fun x => refline_any _ _ _ _ _, ?_⟩; refine hK _ _ ?_; clear hK K) | (refine ⟨_, fun x => apart_any _ _ _ _ _ _ _ _ _, ?_⟩; refine hK _ _ ?_; clear hK K) | (refine ⟨_, fun x => awake_any _, ?_⟩; refine hK _ _ ?_; clear hK K))
  refine walkT_nil ?_
  intro w2 hc
  replace g0 := hc.at0 g0
  replace g1 := hc.at0 g1
  replace g2 := hc.at0 g2
  replace g3 := hc.at0 g3
  replace hb := hb.trans (hc.below.mono hb.size)
  replace hz := Nat.le_trans hz hc.kept.size
  clear hc o4 f44 f45 f46 f47 f48 f49 f50 f51 f52 f53 f54 f55 W
  go_wp2
  go_ret
  exact ⟨rfl, hb⟩


set_option maxHeartbeats 2000000 in
theorem boxes_half (ax ay bx by' cx cy dx dy : Int) (w : World) (h1 : lineB ax ay bx by' = true) (h2 : lineB cx cy dx dy = false) : Calls Try.prog 5 #[.agg #[.int .i64 ax, .int .i64 ay, .int .i64 bx, .int .i64 by'], .agg #[.int .i64 cx, .int .i64 cy, .int .i64 dx, .int .i64 dy]] w fun e w' => e = .returned (.bool true) ∧ Below w.heap.size w w' := by
  go_enter Try.func5, Try.ntmps5
  go_upto_region 1 with (fail)
  refine plain_hid (fun W hW ops hops => ?_)
  have hb : Below w.heap.size w W := by rw [hW]; go_grown
  have hz : w.heap.size + 2 ≤ W.heap.size := by rw [hW]; simp
  have g0 : W.heap[w.heap.size]? = some (.cells #[.int .i64 ax, .int .i64 ay, .int .i64 bx, .int .i64 by'] 34) := by rw [hW]; exact heap_alloc_lt (heap_alloc_is (rfl))
  have g1 : W.heap[w.heap.size + 1]? = some (.cells #[.int .i64 cx, .int .i64 cy, .int .i64 dx, .int .i64 dy] 34) := by rw [hW]; exact heap_alloc_is (by simp)
  clear hW
  clear hops
  have f0 : ∀ x : Later W [], x.w.cell? ⟨w.heap.size, 0, none⟩ = some (.int .i64 ax) := fun x => cell_of_block (Later.at0 g0 x) rfl
  have f1 : ∀ x : Later W [], x.w.cell? ⟨w.heap.size, 1, none⟩ = some (.int .i64 ay) := fun x => cell_of_block (Later.at0 g0 x) rfl
  have f2 : ∀ x : Later W [], x.w.cell? ⟨w.heap.size, 2, none⟩ = some (.int .i64 bx) := fun x => cell_of_block (Later.at0 g0 x) rfl
  have f3 : ∀ x : Later W [], x.w.cell? ⟨w.heap.size, 3, none⟩ = some (.int .i64 by') := fun x => cell_of_block (Later.at0 g0 x) rfl
  have f4 : ∀ x : Later W [], x.w.cell? ⟨w.heap.size + 1, 0, none⟩ = some (.int .i64 cx) := fun x => cell_of_block (Later.at0 g1 x) rfl
  have f5 : ∀ x : Later W [], x.w.cell? ⟨w.heap.size + 1, 1, none⟩ = some (.int .i64 cy) := fun x => cell_of_block (Later.at0 g1 x) rfl
  have f6 : ∀ x : Later W [], x.w.cell? ⟨w.heap.size + 1, 2, none⟩ = some (.int .i64 dx) := fun x => cell_of_block (Later.at0 g1 x) rfl
  have f7 : ∀ x : Later W [], x.w.cell? ⟨w.heap.size + 1, 3, none⟩ = some (.int .i64 dy) := fun x => cell_of_block (Later.at0 g1 x) rfl
  repeat (refine walkT_step (fun K hK => ?_); go_simp; first | (refine hK _ _ ?_; clear hK K) | (refine ⟨_, fun x => calm_ne2, ?_⟩; refine hK _ _ ?_; clear hK K) | (refine ⟨_, fun x => calm_eq2, ?_⟩; refine hK _ _ ?_; clear hK K) | (refine ⟨_, fun x => box_any _ _ _ _ _, ?_⟩; refine hK _ _ ?_; clear hK K))
  refine walkT_step (fun K hK => ?_)
  go_simp
  refine ⟨_, fun _ => rfl, fun k5 hk5 nk5 => hK _ _ ?_⟩; clear hK K
  refine walkT_step (fun K hK => ?_)
  go_simp
  refine ⟨_, fun _ => rfl, fun k6 hk6 nk6 => hK _ _ ?_⟩; clear hK K
  have ne_k6_k5 : k6 ≠ k5 := fun e => by subst e; simp [Gh.set] at nk6
  have ne_k5_k6 : k5 ≠ k6 := Ne.symm ne_k6_k5
  clear nk5 nk6
  refine walkT_fill (k := k5) (ob := #[.int .i64 0, .int .i64 0]) (t := 23) (v := .agg #[.int .i64 (bminI ax ay bx by' (minI ax bx)), .int .i64 (bminI ax ay bx by' (minI ay by'))]) rfl rfl rfl rfl ((Gh.set_ne _ _ ne_k5_k6).trans (Gh.set_same _ _ _)) rfl (by kernel_rfl) rfl rfl ?_
  refine walkT_fill (k := k6) (ob := #[.int .i64 0, .int .i64 0]) (t := 23) (v := .agg #[.int .i64 (bminI ax ay bx by' (maxI ax bx)), .int .i64 (bminI ax ay bx by' (maxI ay by'))]) rfl rfl rfl rfl ((Gh.set_ne _ _ ne_k6_k5).trans (Gh.set_same _ _ _)) rfl (by kernel_rfl) rfl rfl ?_
  refine walkT_nil ?_
  intro w1 hc
  replace g0 := hc.at0 g0
  replace g1 := hc.at0 g1
  have g2 : w1.heap[k5]? = some (.cells #[.int .i64 (bminI ax ay bx by' (minI ax bx)), .int .i64 (bminI ax ay bx by' (minI ay by'))] 23) := (hc.own (k5) _ true ((Gh.set_ne _ _ ne_k5_k6).trans (Gh.set_same _ _ _))).2
  have g3 : w1.heap[k6]? = some (.cells #[.int .i64 (bminI ax ay bx by' (maxI ax bx)), .int .i64 (bminI ax ay bx by' (maxI ay by'))] 23) := (hc.own (k6) _ true (Gh.set_same _ _ _)).2
  replace hb := hb.trans (hc.below.mono hb.size)
  replace hk5 := Nat.le_trans hz hk5
  replace hk6 := Nat.le_trans hz hk6
  replace hz := Nat.le_trans hz hc.kept.size
  clear hc f0 f1 f2 f3 f4 f5 f6 f7 W
  go_upto_region 2 with (fail)
  refine plain_hid (fun W hW ops hops => ?_)
  subst hW
  clear hops
  have f8 : ∀ x : Later W [], x.w.cell? ⟨w.heap.size, 0, none⟩ = some (.int .i64 ax) := fun x => cell_of_block (Later.at0 g0 x) rfl
  have f9 : ∀ x : Later W [], x.w.cell? ⟨w.heap.size, 1, none⟩ = some (.int .i64 ay) := fun x => cell_of_block (Later.at0 g0 x) rfl
  have f10 : ∀ x : Later W [], x.w.cell? ⟨w.heap.size, 2, none⟩ = some (.int .i64 bx) := fun x => cell_of_block (Later.at0 g0 x) rfl
  have f11 : ∀ x : Later W [], x.w.cell? ⟨w.heap.size, 3, none⟩ = some (.int .i64 by') := fun x => cell_of_block (Later.at0 g0 x) rfl
  have f12 : ∀ x : Later W [], x.w.cell? ⟨w.heap.size + 1, 0, none⟩ = some (.int .i64 cx) := fun x => cell_of_block (Later.at0 g1 x) rfl
  have f13 : ∀ x : Later W [], x.w.cell? ⟨w.heap.size + 1, 1, none⟩ = some (.int .i64 cy) := fun x => cell_of_block (Later.at0 g1 x) rfl
  have f14 : ∀ x : Later W [], x.w.cell? ⟨w.heap.size + 1, 2, none⟩ = some (.int .i64 dx) := fun x => cell_of_block (Later.at0 g1 x) rfl
  have f15 : ∀ x : Later W [], x.w.cell? ⟨w.heap.size + 1, 3, none⟩ = some (.int .i64 dy) := fun x => cell_of_block (Later.at0 g1 x) rfl
  have f16 : ∀ x : Later W [], x.w.cell? ⟨k5, 0, none⟩ = some (.int .i64 (bminI ax ay bx by' (minI ax bx))) := fun x => cell_of_block (Later.at0 g2 x) rfl
  have f17 : ∀ x : Later W [], x.w.cell? ⟨k5, 1, none⟩ = some (.int .i64 (bminI ax ay bx by' (minI ay by'))) := fun x => cell_of_block (Later.at0 g2 x) rfl
  have f18 : ∀ x : Later W [], x.w.cell? ⟨k6, 0, none⟩ = some (.int .i64 (bminI ax ay bx by' (maxI ax bx))) := fun x => cell_of_block (Later.at0 g3 x) rfl
  have f19 : ∀ x : Later W [], x.w.cell? ⟨k6, 1, none⟩ = some (.int .i64 (bminI ax ay bx by' (maxI ay by'))) := fun x => cell_of_block (Later.at0 g3 x) rfl
  repeat (refine walkT_step (fun K hK => ?_); go_simp; first | (refine hK _ _ ?_; clear hK K) | (refine ⟨_, fun x => calm_ne2, ?_⟩; refine hK _ _ ?_; clear hK K) | (refine ⟨_, fun x => calm_eq2, ?_⟩; refine hK _ _ ?_; clear hK K) | (refine ⟨_, fun x => line_any _ _ _ _ _, ?_⟩; refine hK _ _ ?_; clear hK K) | (refine ⟨_, fun x => refline_any _ _ _ _ _, ?_⟩; refine hK _ _ ?_; clear hK K) | (refine ⟨_, fun x => apart_any _ _ _ _ _ _ _ _ _, ?_⟩; refine hK _ _ ?_; clear hK K) | (refine ⟨_, fun x => awake_any _, ?_⟩; refine hK _ _ ?_; clear hK K))
  refine walkT_nil ?_
  intro w1 hc
  replace g0 := hc.at0 g0
  replace g1 := hc.at0 g1
  replace g2 := hc.at0 g2
  replace g3 := hc.at0 g3
  replace hb := hb.trans (hc.below.mono hb.size)
  replace hz := Nat.le_trans hz hc.kept.size
  clear hc f8 f9 f10 f11 f12 f13 f14 f15 f16 f17 f18 f19 W
  have e0 : bminI ax ay bx by' (minI ax bx) = minI ax bx := if_pos h1
  have e1 : bminI ax ay bx by' (minI ay by') = minI ay by' := if_pos h1
  have e2 : bminI ax ay bx by' (maxI ax bx) = maxI ax bx := if_pos h1
  have e3 : bminI ax ay bx by' (maxI ay by') = maxI ay by' := if_pos h1
  go_upto_region 3 with (fail)
  refine plain_hid (fun W hW ops hops => ?_)
  subst hW
  have o4 : (ops[4]?).bind (fun x => x.dst) = some 24 := by rw [hops]; rfl
  have o7 : (ops[7]?).bind (fun x => x.dst) = some 27 := by rw [hops]; rfl
  have o11 : (ops[11]?).bind (fun x => x.dst) = some 31 := by rw [hops]; rfl
  clear hops
  have f20 : ∀ x : Later W [], x.w.cell? ⟨w.heap.size, 0, none⟩ = some (.int .i64 ax) := fun x => cell_of_block (Later.at0 g0 x) rfl
  have f21 : ∀ x : Later W [], x.w.cell? ⟨w.heap.size, 1, none⟩ = some (.int .i64 ay) := fun x => cell_of_block (Later.at0 g0 x) rfl
  have f22 : ∀ x : Later W [], x.w.cell? ⟨w.heap.size, 2, none⟩ = some (.int .i64 bx) := fun x => cell_of_block (Later.at0 g0 x) rfl
  have f23 : ∀ x : Later W [], x.w.cell? ⟨w.heap.size, 3, none⟩ = some (.int .i64 by') := fun x => cell_of_block (Later.at0 g0 x) rfl
  have f24 : ∀ x : Later W [], x.w.cell? ⟨w.heap.size + 1, 0, none⟩ = some (.int .i64 cx) := fun x => cell_of_block (Later.at0 g1 x) rfl
  have f25 : ∀ x : Later W [], x.w.cell? ⟨w.heap.size + 1, 1, none⟩ = some (.int .i64 cy) := fun x => cell_of_block (Later.at0 g1 x) rfl
  have f26 : ∀ x : Later W [], x.w.cell? ⟨w.heap.size + 1, 2, none⟩ = some (.int .i64 dx) := fun x => cell_of_block (Later.at0 g1 x) rfl
  have f27 : ∀ x : Later W [], x.w.cell? ⟨w.heap.size + 1, 3, none⟩ = some (.int .i64 dy) := fun x => cell_of_block (Later.at0 g1 x) rfl
  have f28 : ∀ x : Later W [], x.w.cell? ⟨k5, 0, none⟩ = some (.int .i64 (bminI ax ay bx by' (minI ax bx))) := fun x => cell_of_block (Later.at0 g2 x) rfl
  have f29 : ∀ x : Later W [], x.w.cell? ⟨k5, 1, none⟩ = some (.int .i64 (bminI ax ay bx by' (minI ay by'))) := fun x => cell_of_block (Later.at0 g2 x) rfl
  have f30 : ∀ x : Later W [], x.w.cell? ⟨k6, 0, none⟩ = some (.int .i64 (bminI ax ay bx by' (maxI ax bx))) := fun x => cell_of_block (Later.at0 g3 x) rfl
  have f31 : ∀ x : Later W [], x.w.cell? ⟨k6, 1, none⟩ = some (.int .i64 (bminI ax ay bx by' (maxI ay by'))) := fun x => cell_of_block (Later.at0 g3 x) rfl
  repeat (refine walkT_step (fun K hK => ?_); go_simp; first | (refine hK _ _ ?_; clear hK K) | (refine ⟨_, fun x => calm_ne2, ?_⟩; refine hK _ _ ?_; clear hK K) | (refine ⟨_, fun x => calm_eq2, ?_⟩; refine hK _ _ ?_; clear hK K) | (refine ⟨_, fun x => line_any _ _ _ _ _, ?_⟩; refine hK _ _ ?_; clear hK K) | (refine ⟨_, fun x => refline_any _ _ _ _ _, ?_⟩; refine hK _ _ ?_; clear hK K) | (refine ⟨_, fun x => apart_any _ _ _ _ _ _ _ _ _, ?_⟩; refine hK _ _ ?_; clear hK K) | (refine ⟨_, fun x => awake_any _, ?_⟩; refine hK _ _ ?_; clear hK K))
  refine walkT_nil ?_
  intro w1 hc
  replace g0 := hc.at0 g0
  replace g1 := hc.at0 g1
  replace g2 := hc.at0 g2
  replace g3 := hc.at0 g3
  replace hb := hb.trans (hc.below.mono hb.size)
  replace hz := Nat.le_trans hz hc.kept.size
  clear hc o4 o7 o11 f20 f21 f22 f23 f24 f25 f26 f27 f28 f29 f30 f31 W
  go_upto_region 5 with (fail)
  refine plain_hid (fun W hW ops hops => ?_)
  subst hW
  have o2 : (ops[2]?).bind (fun x => x.dst) = some 40 := by rw [hops]; rfl
  clear hops
  have f32 : ∀ x : Later W [], x.w.cell? ⟨w.heap.size, 0, none⟩ = some (.int .i64 ax) := fun x => cell_of_block (Later.at0 g0 x) rfl
  have f33 : ∀ x : Later W [], x.w.cell? ⟨w.heap.size, 1, none⟩ = some (.int .i64 ay) := fun x => cell_of_block (Later.at0 g0 x) rfl
  have f34 : ∀ x : Later W [], x.w.cell? ⟨w.heap.size, 2, none⟩ = some (.int .i64 bx) := fun x => cell_of_block (Later.at0 g0 x) rfl
  have f35 : ∀ x : Later W [], x.w.cell? ⟨w.heap.size, 3, none⟩ = some (.int .i64 by') := fun x => cell_of_block (Later.at0 g0 x) rfl
  have f36 : ∀ x : Later W [], x.w.cell? ⟨w.heap.size + 1, 0, none⟩ = some (.int .i64 cx) := fun x => cell_of_block (Later.at0 g1 x) rfl
  have f37 : ∀ x : Later W [], x.w.cell? ⟨w.heap.size + 1, 1, none⟩ = some (.int .i64 cy) := fun x => cell_of_block (Later.at0 g1 x) rfl
  have f38 : ∀ x : Later W [], x.w.cell? ⟨w.heap.size + 1, 2, none⟩ = some (.int .i64 dx) := fun x => cell_of_block (Later.at0 g1 x) rfl
  have f39 : ∀ x : Later W [], x.w.cell? ⟨w.heap.size + 1, 3, none⟩ = some (.int .i64 dy) := fun x => cell_of_block (Later.at0 g1 x) rfl
  have f40 : ∀ x : Later W [], x.w.cell? ⟨k5, 0, none⟩ = some (.int .i64 (bminI ax ay bx by' (minI ax bx))) := fun x => cell_of_block (Later.at0 g2 x) rfl
  have f41 : ∀ x : Later W [], x.w.cell? ⟨k5, 1, none⟩ = some (.int .i64 (bminI ax ay bx by' (minI ay by'))) := fun x => cell_of_block (Later.at0 g2 x) rfl
  have f42 : ∀ x : Later W [], x.w.cell? ⟨k6, 0, none⟩ = some (.int .i64 (bminI ax ay bx by' (maxI ax bx))) := fun x => cell_of_block (Later.at0 g3 x) rfl
  have f43 : ∀ x : Later W [], x.w.cell? ⟨k6, 1, none⟩ = some (.int .i64 (bminI ax ay bx by' (maxI ay by'))) := fun x => cell_of_block (Later.at0 g3 x) rfl
  repeat (refine walkT_step (fun K hK => ?_); go_simp; first | (refine hK _ _ ?_; clear hK K) | (refine ⟨_, fun x => calm_ne2, ?_⟩; refine hK _ _ ?_; clear hK K) | (refine ⟨_, fun x => calm_eq2, ?_⟩; refine hK _ _ ?_; clear hK K) | (refine ⟨_, fun x => line_any _ _ _ _ _, ?_⟩; refine hK _ _ ?_; clear hK K) | (refine ⟨_, fun x => refline_any _ _ _ _ _, ?_⟩; refine hK _ _ ?_; clear hK K) | (refine ⟨_, fun x => apart_any _ _ _ _ _ _ _ _ _, ?_⟩; refine hK _ _ ?_; clear hK K) | (refine ⟨_, fun x => awake_any _, ?_⟩; refine hK _ _ ?_; clear hK K))
  refine walkT_nil ?_
  intro w1 hc
  replace g0 := hc.at0 g0
  replace g1 := hc.at0 g1
  replace g2 := hc.at0 g2
  replace g3 := hc.at0 g3
  replace hb := hb.trans (hc.below.mono hb.size)
  replace hz := Nat.le_trans hz hc.kept.size
  clear hc o2 f32 f33 f34 f35 f36 f37 f38 f39 f40 f41 f42 f43 W
  have ha : apartB ax ay bx by' cx cy dx dy = false := by unfold apartB; rw [h1, h2]; rfl
  go_upto_region 6 with (fail)
  refine plain_hid (fun W hW ops hops => ?_)
  subst hW
  have o4 : (ops[4]?).bind (fun x => x.dst) = some 49 := by rw [hops]; rfl
  clear hops
  have f44 : ∀ x : Later W [], x.w.cell? ⟨w.heap.size, 0, none⟩ = some (.int .i64 ax) := fun x => cell_of_block (Later.at0 g0 x) rfl
  have f45 : ∀ x : Later W [], x.w.cell? ⟨w.heap.size, 1, none⟩ = some (.int .i64 ay) := fun x => cell_of_block (Later.at0 g0 x) rfl
  have f46 : ∀ x : Later W [], x.w.cell? ⟨w.heap.size, 2, none⟩ = some (.int .i64 bx) := fun x => cell_of_block (Later.at0 g0 x) rfl
  have f47 : ∀ x : Later W [], x.w.cell? ⟨w.heap.size, 3, none⟩ = some (.int .i64 by') := fun x => cell_of_block (Later.at0 g0 x) rfl
  have f48 : ∀ x : Later W [], x.w.cell? ⟨w.heap.size + 1, 0, none⟩ = some (.int .i64 cx) := fun x => cell_of_block (Later.at0 g1 x) rfl
  have f49 : ∀ x : Later W [], x.w.cell? ⟨w.heap.size + 1, 1, none⟩ = some (.int .i64 cy) := fun x => cell_of_block (Later.at0 g1 x) rfl
  have f50 : ∀ x : Later W [], x.w.cell? ⟨w.heap.size + 1, 2, none⟩ = some (.int .i64 dx) := fun x => cell_of_block (Later.at0 g1 x) rfl
  have f51 : ∀ x : Later W [], x.w.cell? ⟨w.heap.size + 1, 3, none⟩ = some (.int .i64 dy) := fun x => cell_of_block (Later.at0 g1 x) rfl
  have f52 : ∀ x : Later W [], x.w.cell? ⟨k5, 0, none⟩ = some (.int .i64 (bminI ax ay bx by' (minI ax bx))) := fun x => cell_of_block (Later.at0 g2 x) rfl
  have f53 : ∀ x : Later W [], x.w.cell? ⟨k5, 1, none⟩ = some (.int .i64 (bminI ax ay bx by' (minI ay by'))) := fun x => cell_of_block (Later.at0 g2 x) rfl
  have f54 : ∀ x : Later W [], x.w.cell? ⟨k6, 0, none⟩ = some (.int .i64 (bminI ax ay bx by' (maxI ax bx))) := fun x => cell_of_block (Later.at0 g3 x) rfl
  have f55 : ∀ x : Later W [], x.w.cell? ⟨k6, 1, none⟩ = some (.int .i64 (bminI ax ay bx by' (maxI ay by'))) := fun x => cell_of_block (Later.at0 g3 x) rfl
  repeat (refine walkT_step (fun K hK => ?_); go_simp; first | (refine hK _ _ ?_; clear hK K) | (refine ⟨_, fun x => calm_ne2, ?_⟩; refine hK _ _ ?_; clear hK K) | (refine ⟨_, fun x => calm_eq2, ?_⟩; refine hK _ _ ?_; clear hK K) | (refine ⟨_, fun x => line_any _ _ _ _ _, ?_⟩; refine hK _ _ ?_; clear hK K) | (refine ⟨_, fun x => refline_any _ _ _ _ _, ?_⟩; refine hK _ _ ?_; clear hK K) | (refine ⟨_, fun x => apart_any _ _ _ _ _ _ _ _ _, ?_⟩; refine hK _ _ ?_; clear hK K) | (refine ⟨_, fun x => awake_any _, ?_⟩; refine hK _ _ ?_; clear hK K))
  refine walkT_nil ?_
  intro w2 hc
  replace g0 := hc.at0 g0
  replace g1 := hc.at0 g1
  replace g2 := hc.at0 g2
  replace g3 := hc.at0 g3
  replace hb := hb.trans (hc.below.mono hb.size)
  replace hz := Nat.le_trans hz hc.kept.size
  clear hc o4 f44 f45 f46 f47 f48 f49 f50 f51 f52 f53 f54 f55 W
  go_wp2
  go_ret
  exact ⟨rfl, hb⟩


set_option maxRecDepth 100000 in
set_option maxHeartbeats 4000000 in
theorem boxes_yes (ax ay bx by' cx cy dx dy : Int) (w : World) (h1 : lineB ax ay bx by' = true) (h2 : lineB cx cy dx dy = true) : Calls Try.prog 5 #[.agg #[.int .i64 ax, .int .i64 ay, .int .i64 bx, .int .i64 by'], .agg #[.int .i64 cx, .int .i64 cy, .int .i64 dx, .int .i64 dy]] w fun e w' => e = .returned (.bool true) ∧ Below w.heap.size w w' := by
  go_enter Try.func5, Try.ntmps5
  go_upto_region 1 with (fail)
  refine plain_hid (fun W hW ops hops => ?_)
  have hb : Below w.heap.size w W := by rw [hW]; go_grown
  have hz : w.heap.size + 2 ≤ W.heap.size := by rw [hW]; simp
  have g0 : W.heap[w.heap.size]? = some (.cells #[.int .i64 ax, .int .i64 ay, .int .i64 bx, .int .i64 by'] 34) := by rw [hW]; exact heap_alloc_lt (heap_alloc_is (rfl))
  have g1 : W.heap[w.heap.size + 1]? = some (.cells #[.int .i64 cx, .int .i64 cy, .int .i64 dx, .int .i64 dy] 34) := by rw [hW]; exact heap_alloc_is (by simp)
  clear hW
  clear hops
  have f0 : ∀ x : Later W [], x.w.cell? ⟨w.heap.size, 0, none⟩ = some (.int .i64 ax) := fun x => cell_of_block (Later.at0 g0 x) rfl
  have f1 : ∀ x : Later W [], x.w.cell? ⟨w.heap.size, 1, none⟩ = some (.int .i64 ay) := fun x => cell_of_block (Later.at0 g0 x) rfl
  have f2 : ∀ x : Later W [], x.w.cell? ⟨w.heap.size, 2, none⟩ = some (.int .i64 bx) := fun x => cell_of_block (Later.at0 g0 x) rfl
  have f3 : ∀ x : Later W [], x.w.cell? ⟨w.heap.size, 3, none⟩ = some (.int .i64 by') := fun x => cell_of_block (Later.at0 g0 x) rfl
  have f4 : ∀ x : Later W [], x.w.cell? ⟨w.heap.size + 1, 0, none⟩ = some (.int .i64 cx) := fun x => cell_of_block (Later.at0 g1 x) rfl
  have f5 : ∀ x : Later W [], x.w.cell? ⟨w.heap.size + 1, 1, none⟩ = some (.int .i64 cy) := fun x => cell_of_block (Later.at0 g1 x) rfl
  have f6 : ∀ x : Later W [], x.w.cell? ⟨w.heap.size + 1, 2, none⟩ = some (.int .i64 dx) := fun x => cell_of_block (Later.at0 g1 x) rfl
  have f7 : ∀ x : Later W [], x.w.cell? ⟨w.heap.size + 1, 3, none⟩ = some (.int .i64 dy) := fun x => cell_of_block (Later.at0 g1 x) rfl
  repeat (refine walkT_step (fun K hK => ?_); go_simp; first | (refine hK _ _ ?_; clear hK K) | (refine ⟨_, fun x => calm_ne2, ?_⟩; refine hK _ _ ?_; clear hK K) | (refine ⟨_, fun x => calm_eq2, ?_⟩; refine hK _ _ ?_; clear hK K) | (refine ⟨_, fun x => box_any _ _ _ _ _, ?_⟩; refine hK _ _ ?_; clear hK K))
  refine walkT_step (fun K hK => ?_)
  go_simp
  refine ⟨_, fun _ => rfl, fun k5 hk5 nk5 => hK _ _ ?_⟩; clear hK K
  refine walkT_step (fun K hK => ?_)
  go_simp
  refine ⟨_, fun _ => rfl, fun k6 hk6 nk6 => hK _ _ ?_⟩; clear hK K
  have ne_k6_k5 : k6 ≠ k5 := fun e => by subst e; simp [Gh.set] at nk6
  have ne_k5_k6 : k5 ≠ k6 := Ne.symm ne_k6_k5
  clear nk5 nk6
  refine walkT_fill (k := k5) (ob := #[.int .i64 0, .int .i64 0]) (t := 23) (v := .agg #[.int .i64 (bminI ax ay bx by' (minI ax bx)), .int .i64 (bminI ax ay bx by' (minI ay by'))]) rfl rfl rfl rfl ((Gh.set_ne _ _ ne_k5_k6).trans (Gh.set_same _ _ _)) rfl (by kernel_rfl) rfl rfl ?_
  refine walkT_fill (k := k6) (ob := #[.int .i64 0, .int .i64 0]) (t := 23) (v := .agg #[.int .i64 (bminI ax ay bx by' (maxI ax bx)), .int .i64 (bminI ax ay bx by' (maxI ay by'))]) rfl rfl rfl rfl ((Gh.set_ne _ _ ne_k6_k5).trans (Gh.set_same _ _ _)) rfl (by kernel_rfl) rfl rfl ?_
  refine walkT_nil ?_
  intro w1 hc
  replace g0 := hc.at0 g0
  replace g1 := hc.at0 g1
  have g2 : w1.heap[k5]? = some (.cells #[.int .i64 (bminI ax ay bx by' (minI ax bx)), .int .i64 (bminI ax ay bx by' (minI ay by'))] 23) := (hc.own (k5) _ true ((Gh.set_ne _ _ ne_k5_k6).trans (Gh.set_same _ _ _))).2
  have g3 : w1.heap[k6]? = some (.cells #[.int .i64 (bminI ax ay bx by' (maxI ax bx)), .int .i64 (bminI ax ay bx by' (maxI ay by'))] 23) := (hc.own (k6) _ true (Gh.set_same _ _ _)).2
  replace hb := hb.trans (hc.below.mono hb.size)
  replace hk5 := Nat.le_trans hz hk5
  replace hk6 := Nat.le_trans hz hk6
  replace hz := Nat.le_trans hz hc.kept.size
  clear hc f0 f1 f2 f3 f4 f5 f6 f7 W
  go_upto_region 2 with (fail)
  refine plain_hid (fun W hW ops hops => ?_)
  subst hW
  clear hops
  have f8 : ∀ x : Later W [], x.w.cell? ⟨w.heap.size, 0, none⟩ = some (.int .i64 ax) := fun x => cell_of_block (Later.at0 g0 x) rfl
  have f9 : ∀ x : Later W [], x.w.cell? ⟨w.heap.size, 1, none⟩ = some (.int .i64 ay) := fun x => cell_of_block (Later.at0 g0 x) rfl
  have f10 : ∀ x : Later W [], x.w.cell? ⟨w.heap.size, 2, none⟩ = some (.int .i64 bx) := fun x => cell_of_block (Later.at0 g0 x) rfl
  have f11 : ∀ x : Later W [], x.w.cell? ⟨w.heap.size, 3, none⟩ = some (.int .i64 by') := fun x => cell_of_block (Later.at0 g0 x) rfl
  have f12 : ∀ x : Later W [], x.w.cell? ⟨w.heap.size + 1, 0, none⟩ = some (.int .i64 cx) := fun x => cell_of_block (Later.at0 g1 x) rfl
  have f13 : ∀ x : Later W [], x.w.cell? ⟨w.heap.size + 1, 1, none⟩ = some (.int .i64 cy) := fun x => cell_of_block (Later.at0 g1 x) rfl
  have f14 : ∀ x : Later W [], x.w.cell? ⟨w.heap.size + 1, 2, none⟩ = some (.int .i64 dx) := fun x => cell_of_block (Later.at0 g1 x) rfl
  have f15 : ∀ x : Later W [], x.w.cell? ⟨w.heap.size + 1, 3, none⟩ = some (.int .i64 dy) := fun x => cell_of_block (Later.at0 g1 x) rfl
  have f16 : ∀ x : Later W [], x.w.cell? ⟨k5, 0, none⟩ = some (.int .i64 (bminI ax ay bx by' (minI ax bx))) := fun x => cell_of_block (Later.at0 g2 x) rfl
  have f17 : ∀ x : Later W [], x.w.cell? ⟨k5, 1, none⟩ = some (.int .i64 (bminI ax ay bx by' (minI ay by'))) := fun x => cell_of_block (Later.at0 g2 x) rfl
  have f18 : ∀ x : Later W [], x.w.cell? ⟨k6, 0, none⟩ = some (.int .i64 (bminI ax ay bx by' (maxI ax bx))) := fun x => cell_of_block (Later.at0 g3 x) rfl
  have f19 : ∀ x : Later W [], x.w.cell? ⟨k6, 1, none⟩ = some (.int .i64 (bminI ax ay bx by' (maxI ay by'))) := fun x => cell_of_block (Later.at0 g3 x) rfl
  repeat (refine walkT_step (fun K hK => ?_); go_simp; first | (refine hK _ _ ?_; clear hK K) | (refine ⟨_, fun x => calm_ne2, ?_⟩; refine hK _ _ ?_; clear hK K) | (refine ⟨_, fun x => calm_eq2, ?_⟩; refine hK _ _ ?_; clear hK K) | (refine ⟨_, fun x => line_any _ _ _ _ _, ?_⟩; refine hK _ _ ?_; clear hK K) | (refine ⟨_, fun x => refline_any _ _ _ _ _, ?_⟩; refine hK _ _ ?_; clear hK K) | (refine ⟨_, fun x => apart_any _ _ _ _ _ _ _ _ _, ?_⟩; refine hK _ _ ?_; clear hK K) | (refine ⟨_, fun x => awake_any _, ?_⟩; refine hK _ _ ?_; clear hK K))
  refine walkT_nil ?_
  intro w1 hc
  replace g0 := hc.at0 g0
  replace g1 := hc.at0 g1
  replace g2 := hc.at0 g2
  replace g3 := hc.at0 g3
  replace hb := hb.trans (hc.below.mono hb.size)
  replace hz := Nat.le_trans hz hc.kept.size
  clear hc f8 f9 f10 f11 f12 f13 f14 f15 f16 f17 f18 f19 W
  have e0 : bminI ax ay bx by' (minI ax bx) = minI ax bx := if_pos h1
  have e1 : bminI ax ay bx by' (minI ay by') = minI ay by' := if_pos h1
  have e2 : bminI ax ay bx by' (maxI ax bx) = maxI ax bx := if_pos h1
  have e3 : bminI ax ay bx by' (maxI ay by') = maxI ay by' := if_pos h1
  go_upto_region 3 with (fail)
  refine plain_hid (fun W hW ops hops => ?_)
  subst hW
  have o4 : (ops[4]?).bind (fun x => x.dst) = some 24 := by rw [hops]; rfl
  have o7 : (ops[7]?).bind (fun x => x.dst) = some 27 := by rw [hops]; rfl
  have o11 : (ops[11]?).bind (fun x => x.dst) = some 31 := by rw [hops]; rfl
  clear hops
  have f20 : ∀ x : Later W [], x.w.cell? ⟨w.heap.size, 0, none⟩ = some (.int .i64 ax) := fun x => cell_of_block (Later.at0 g0 x) rfl
  have f21 : ∀ x : Later W [], x.w.cell? ⟨w.heap.size, 1, none⟩ = some (.int .i64 ay) := fun x => cell_of_block (Later.at0 g0 x) rfl
  have f22 : ∀ x : Later W [], x.w.cell? ⟨w.heap.size, 2, none⟩ = some (.int .i64 bx) := fun x => cell_of_block (Later.at0 g0 x) rfl
  have f23 : ∀ x : Later W [], x.w.cell? ⟨w.heap.size, 3, none⟩ = some (.int .i64 by') := fun x => cell_of_block (Later.at0 g0 x) rfl
  have f24 : ∀ x : Later W [], x.w.cell? ⟨w.heap.size + 1, 0, none⟩ = some (.int .i64 cx) := fun x => cell_of_block (Later.at0 g1 x) rfl
  have f25 : ∀ x : Later W [], x.w.cell? ⟨w.heap.size + 1, 1, none⟩ = some (.int .i64 cy) := fun x => cell_of_block (Later.at0 g1 x) rfl
  have f26 : ∀ x : Later W [], x.w.cell? ⟨w.heap.size + 1, 2, none⟩ = some (.int .i64 dx) := fun x => cell_of_block (Later.at0 g1 x) rfl
  have f27 : ∀ x : Later W [], x.w.cell? ⟨w.heap.size + 1, 3, none⟩ = some (.int .i64 dy) := fun x => cell_of_block (Later.at0 g1 x) rfl
  have f28 : ∀ x : Later W [], x.w.cell? ⟨k5, 0, none⟩ = some (.int .i64 (bminI ax ay bx by' (minI ax bx))) := fun x => cell_of_block (Later.at0 g2 x) rfl
  have f29 : ∀ x : Later W [], x.w.cell? ⟨k5, 1, none⟩ = some (.int .i64 (bminI ax ay bx by' (minI ay by'))) := fun x => cell_of_block (Later.at0 g2 x) rfl
  have f30 : ∀ x : Later W [], x.w.cell? ⟨k6, 0, none⟩ = some (.int .i64 (bminI ax ay bx by' (maxI ax bx))) := fun x => cell_of_block (Later.at0 g3 x) rfl
  have f31 : ∀ x : Later W [], x.w.cell? ⟨k6, 1, none⟩ = some (.int .i64 (bminI ax ay bx by' (maxI ay by'))) := fun x => cell_of_block (Later.at0 g3 x) rfl
  repeat (refine walkT_step (fun K hK => ?_); go_simp; first | (refine hK _ _ ?_; clear hK K) | (refine ⟨_, fun x => calm_ne2, ?_⟩; refine hK _ _ ?_; clear hK K) | (refine ⟨_, fun x => calm_eq2, ?_⟩; refine hK _ _ ?_; clear hK K) | (refine ⟨_, fun x => line_any _ _ _ _ _, ?_⟩; refine hK _ _ ?_; clear hK K) | (refine ⟨_, fun x => refline_any _ _ _ _ _, ?_⟩; refine hK _ _ ?_; clear hK K) | (refine ⟨_, fun x => apart_any _ _ _ _ _ _ _ _ _, ?_⟩; refine hK _ _ ?_; clear hK K) | (refine ⟨_, fun x => awake_any _, ?_⟩; refine hK _ _ ?_; clear hK K))
  refine walkT_nil ?_
  intro w1 hc
  replace g0 := hc.at0 g0
  replace g1 := hc.at0 g1
  replace g2 := hc.at0 g2
  replace g3 := hc.at0 g3
  replace hb := hb.trans (hc.below.mono hb.size)
  replace hz := Nat.le_trans hz hc.kept.size
  clear hc o4 o7 o11 f20 f21 f22 f23 f24 f25 f26 f27 f28 f29 f30 f31 W
  go_upto_region 5 with (fail)
  refine plain_hid (fun W hW ops hops => ?_)
  subst hW
  have o2 : (ops[2]?).bind (fun x => x.dst) = some 40 := by rw [hops]; rfl
  clear hops
  have f32 : ∀ x : Later W [], x.w.cell? ⟨w.heap.size, 0, none⟩ = some (.int .i64 ax) := fun x => cell_of_block (Later.at0 g0 x) rfl
  have f33 : ∀ x : Later W [], x.w.cell? ⟨w.heap.size, 1, none⟩ = some (.int .i64 ay) := fun x => cell_of_block (Later.at0 g0 x) rfl
  have f34 : ∀ x : Later W [], x.w.cell? ⟨w.heap.size, 2, none⟩ = some (.int .i64 bx) := fun x => cell_of_block (Later.at0 g0 x) rfl
  have f35 : ∀ x : Later W [], x.w.cell? ⟨w.heap.size, 3, none⟩ = some (.int .i64 by') := fun x => cell_of_block (Later.at0 g0 x) rfl
  have f36 : ∀ x : Later W [], x.w.cell? ⟨w.heap.size + 1, 0, none⟩ = some (.int .i64 cx) := fun x => cell_of_block (Later.at0 g1 x) rfl
  have f37 : ∀ x : Later W [], x.w.cell? ⟨w.heap.size + 1, 1, none⟩ = some (.int .i64 cy) := fun x => cell_of_block (Later.at0 g1 x) rfl
  have f38 : ∀ x : Later W [], x.w.cell? ⟨w.heap.size + 1, 2, none⟩ = some (.int .i64 dx) := fun x => cell_of_block (Later.at0 g1 x) rfl
  have f39 : ∀ x : Later W [], x.w.cell? ⟨w.heap.size + 1, 3, none⟩ = some (.int .i64 dy) := fun x => cell_of_block (Later.at0 g1 x) rfl
  have f40 : ∀ x : Later W [], x.w.cell? ⟨k5, 0, none⟩ = some (.int .i64 (bminI ax ay bx by' (minI ax bx))) := fun x => cell_of_block (Later.at0 g2 x) rfl
  have f41 : ∀ x : Later W [], x.w.cell? ⟨k5, 1, none⟩ = some (.int .i64 (bminI ax ay bx by' (minI ay by'))) := fun x => cell_of_block (Later.at0 g2 x) rfl
  have f42 : ∀ x : Later W [], x.w.cell? ⟨k6, 0, none⟩ = some (.int .i64 (bminI ax ay bx by' (maxI ax bx))) := fun x => cell_of_block (Later.at0 g3 x) rfl
  have f43 : ∀ x : Later W [], x.w.cell? ⟨k6, 1, none⟩ = some (.int .i64 (bminI ax ay bx by' (maxI ay by'))) := fun x => cell_of_block (Later.at0 g3 x) rfl
  repeat (refine walkT_step (fun K hK => ?_); go_simp; first | (refine hK _ _ ?_; clear hK K) | (refine ⟨_, fun x => calm_ne2, ?_⟩; refine hK _ _ ?_; clear hK K) | (refine ⟨_, fun x => calm_eq2, ?_⟩; refine hK _ _ ?_; clear hK K) | (refine ⟨_, fun x => line_any _ _ _ _ _, ?_⟩; refine hK _ _ ?_; clear hK K) | (refine ⟨_, fun x => refline_any _ _ _ _ _, ?_⟩; refine hK _ _ ?_; clear hK K) | (refine ⟨_, fun x => apart_any _ _ _ _ _ _ _ _ _, ?_⟩; refine hK _ _ ?_; clear hK K) | (refine ⟨_, fun x => awake_any _, ?_⟩; refine hK _ _ ?_; clear hK K))
  refine walkT_nil ?_
  intro w1 hc
  replace g0 := hc.at0 g0
  replace g1 := hc.at0 g1
  replace g2 := hc.at0 g2
  replace g3 := hc.at0 g3
  replace hb := hb.trans (hc.below.mono hb.size)
  replace hz := Nat.le_trans hz hc.kept.size
  clear hc o2 f32 f33 f34 f35 f36 f37 f38 f39 f40 f41 f42 f43 W
  obtain ⟨p1, p2, p3, p4⟩ := line_parts h1
  obtain ⟨p5, p6, p7, p8⟩ := line_parts h2
  go_upto_region 7 with (fail)
  refine draws_hid (by kernel_rfl) (by kernel_rfl) (by kernel_rfl) (fun W hW ops hops => ?_)
  subst hW
  clear hops
  have f44 : ∀ x : Later W [], x.w.cell? ⟨w.heap.size, 0, none⟩ = some (.int .i64 ax) := fun x => cell_of_block (Later.at0 g0 x) rfl
  have f45 : ∀ x : Later W [], x.w.cell? ⟨w.heap.size, 1, none⟩ = some (.int .i64 ay) := fun x => cell_of_block (Later.at0 g0 x) rfl
  have f46 : ∀ x : Later W [], x.w.cell? ⟨w.heap.size, 2, none⟩ = some (.int .i64 bx) := fun x => cell_of_block (Later.at0 g0 x) rfl
  have f47 : ∀ x : Later W [], x.w.cell? ⟨w.heap.size, 3, none⟩ = some (.int .i64 by') := fun x => cell_of_block (Later.at0 g0 x) rfl
  have f48 : ∀ x : Later W [], x.w.cell? ⟨w.heap.size + 1, 0, none⟩ = some (.int .i64 cx) := fun x => cell_of_block (Later.at0 g1 x) rfl
  have f49 : ∀ x : Later W [], x.w.cell? ⟨w.heap.size + 1, 1, none⟩ = some (.int .i64 cy) := fun x => cell_of_block (Later.at0 g1 x) rfl
  have f50 : ∀ x : Later W [], x.w.cell? ⟨w.heap.size + 1, 2, none⟩ = some (.int .i64 dx) := fun x => cell_of_block (Later.at0 g1 x) rfl
  have f51 : ∀ x : Later W [], x.w.cell? ⟨w.heap.size + 1, 3, none⟩ = some (.int .i64 dy) := fun x => cell_of_block (Later.at0 g1 x) rfl
  have f52 : ∀ x : Later W [], x.w.cell? ⟨k5, 0, none⟩ = some (.int .i64 (bminI ax ay bx by' (minI ax bx))) := fun x => cell_of_block (Later.at0 g2 x) rfl
  have f53 : ∀ x : Later W [], x.w.cell? ⟨k5, 1, none⟩ = some (.int .i64 (bminI ax ay bx by' (minI ay by'))) := fun x => cell_of_block (Later.at0 g2 x) rfl
  have f54 : ∀ x : Later W [], x.w.cell? ⟨k6, 0, none⟩ = some (.int .i64 (bminI ax ay bx by' (maxI ax bx))) := fun x => cell_of_block (Later.at0 g3 x) rfl
  have f55 : ∀ x : Later W [], x.w.cell? ⟨k6, 1, none⟩ = some (.int .i64 (bminI ax ay bx by' (maxI ay by'))) := fun x => cell_of_block (Later.at0 g3 x) rfl
  repeat (refine walkT_step (fun K hK => ?_); go_simp; first | (refine hK _ _ ?_; clear hK K) | (refine ⟨_, fun x => calm_ne2, ?_⟩; refine hK _ _ ?_; clear hK K) | (refine ⟨_, fun x => calm_eq2, ?_⟩; refine hK _ _ ?_; clear hK K) | (refine ⟨_, fun x => low_any _ _ _ _ _, ?_⟩; refine hK _ _ ?_; clear hK K) | (refine ⟨_, fun x => high_ok _ _ _ _ _ (by assumption) (by assumption) (by assumption) (by assumption), ?_⟩; refine hK _ _ ?_; clear hK K))
  refine walkT_step (fun K hK => ?_)
  go_simp
  refine ⟨_, fun _ => rfl, fun k8 hk8 nk8 => hK _ _ ?_⟩; clear hK K
  refine walkT_step (fun K hK => ?_)
  go_simp
  refine ⟨_, fun _ => rfl, fun k9 hk9 nk9 => hK _ _ ?_⟩; clear hK K
  have ne_k9_k8 : k9 ≠ k8 := fun e => by subst e; simp [Gh.set] at nk9
  have ne_k8_k9 : k8 ≠ k9 := Ne.symm ne_k9_k8
  refine walkT_step (fun K hK => ?_)
  go_simp
  refine ⟨_, fun _ => rfl, fun k10 hk10 nk10 => hK _ _ ?_⟩; clear hK K
  have ne_k10_k8 : k10 ≠ k8 := fun e => by subst e; simp [Gh.set] at nk10
  have ne_k8_k10 : k8 ≠ k10 := Ne.symm ne_k10_k8
  have ne_k10_k9 : k10 ≠ k9 := fun e => by subst e; simp [Gh.set] at nk10
  have ne_k9_k10 : k9 ≠ k10 := Ne.symm ne_k10_k9
  refine walkT_step (fun K hK => ?_)
  go_simp
  refine ⟨_, fun _ => rfl, fun k11 hk11 nk11 => hK _ _ ?_⟩; clear hK K
  have ne_k11_k8 : k11 ≠ k8 := fun e => by subst e; simp [Gh.set] at nk11
  have ne_k8_k11 : k8 ≠ k11 := Ne.symm ne_k11_k8
  have ne_k11_k9 : k11 ≠ k9 := fun e => by subst e; simp [Gh.set] at nk11
  have ne_k9_k11 : k9 ≠ k11 := Ne.symm ne_k11_k9
  have ne_k11_k10 : k11 ≠ k10 := fun e => by subst e; simp [Gh.set] at nk11
  have ne_k10_k11 : k10 ≠ k11 := Ne.symm ne_k11_k10
  clear nk8 nk9 nk10 nk11
  refine walkT_fill (k := k8) (ob := #[.int .i64 0, .int .i64 0]) (t := 23) (v := .agg #[.int .i64 (minI ax bx), .int .i64 (minI ay by')]) rfl rfl rfl rfl ((Gh.set_ne _ _ ne_k8_k11).trans ((Gh.set_ne _ _ ne_k8_k10).trans ((Gh.set_ne _ _ ne_k8_k9).trans (Gh.set_same _ _ _)))) rfl (by kernel_rfl) rfl rfl ?_
  refine walkT_fill (k := k9) (ob := #[.int .i64 0, .int .i64 0]) (t := 23) (v := .agg #[.int .i64 (maxI ax bx), .int .i64 (maxI ay by')]) rfl rfl rfl rfl ((Gh.set_ne _ _ ne_k9_k8).trans ((Gh.set_ne _ _ ne_k9_k11).trans ((Gh.set_ne _ _ ne_k9_k10).trans (Gh.set_same _ _ _)))) rfl (by kernel_rfl) rfl rfl ?_
  refine walkT_fill (k := k10) (ob := #[.int .i64 0, .int .i64 0]) (t := 23) (v := .agg #[.int .i64 (minI cx dx), .int .i64 (minI cy dy)]) rfl rfl rfl rfl ((Gh.set_ne _ _ ne_k10_k9).trans ((Gh.set_ne _ _ ne_k10_k8).trans ((Gh.set_ne _ _ ne_k10_k11).trans (Gh.set_same _ _ _)))) rfl (by kernel_rfl) rfl rfl ?_
  refine walkT_fill (k := k11) (ob := #[.int .i64 0, .int .i64 0]) (t := 23) (v := .agg #[.int .i64 (maxI cx dx), .int .i64 (maxI cy dy)]) rfl rfl rfl rfl ((Gh.set_ne _ _ ne_k11_k10).trans ((Gh.set_ne _ _ ne_k11_k9).trans ((Gh.set_ne _ _ ne_k11_k8).trans (Gh.set_same _ _ _)))) rfl (by kernel_rfl) rfl rfl ?_
  refine walkT_nil ?_
  intro w1 hc
  replace g0 := hc.at0 g0
  replace g1 := hc.at0 g1
  replace g2 := hc.at0 g2
  replace g3 := hc.at0 g3
  have g4 : w1.heap[k8]? = some (.cells #[.int .i64 (minI ax bx), .int .i64 (minI ay by')] 23) := (hc.own (k8) _ true ((Gh.set_ne _ _ ne_k8_k11).trans ((Gh.set_ne _ _ ne_k8_k10).trans ((Gh.set_ne _ _ ne_k8_k9).trans (Gh.set_same _ _ _))))).2
  have g5 : w1.heap[k9]? = some (.cells #[.int .i64 (maxI ax bx), .int .i64 (maxI ay by')] 23) := (hc.own (k9) _ true ((Gh.set_ne _ _ ne_k9_k11).trans ((Gh.set_ne _ _ ne_k9_k10).trans (Gh.set_same _ _ _)))).2
  have g6 : w1.heap[k10]? = some (.cells #[.int .i64 (minI cx dx), .int .i64 (minI cy dy)] 23) := (hc.own (k10) _ true ((Gh.set_ne _ _ ne_k10_k11).trans (Gh.set_same _ _ _))).2
  have g7 : w1.heap[k11]? = some (.cells #[.int .i64 (maxI cx dx), .int .i64 (maxI cy dy)] 23) := (hc.own (k11) _ true (Gh.set_same _ _ _)).2
  replace hb := hb.trans (hc.below.mono hb.size)
  replace hk8 := Nat.le_trans hz hk8
  replace hk9 := Nat.le_trans hz hk9
  replace hk10 := Nat.le_trans hz hk10
  replace hk11 := Nat.le_trans hz hk11
  replace hz := Nat.le_trans hz hc.kept.size
  clear hc f44 f45 f46 f47 f48 f49 f50 f51 f52 f53 f54 f55 W
  clear p1 p2 p3 p4 p5 p6 p7 p8
  go_upto_region 8 with (fail)
  go_cut [12] (fun s12 wx => s12 = .bool (commonB ax ay bx by' cx cy dx dy) ∧ Below w.heap.size w wx ∧ w.heap.size + 2 ≤ wx.heap.size ∧ wx.heap[w.heap.size]? = some (.cells #[.int .i64 ax, .int .i64 ay, .int .i64 bx, .int .i64 by'] 34) ∧ wx.heap[w.heap.size + 1]? = some (.cells #[.int .i64 cx, .int .i64 cy, .int .i64 dx, .int .i64 dy] 34) ∧ wx.heap[k5]? = some (.cells #[.int .i64 (bminI ax ay bx by' (minI ax bx)), .int .i64 (bminI ax ay bx by' (minI ay by'))] 23) ∧ wx.heap[k6]? = some (.cells #[.int .i64 (bminI ax ay bx by' (maxI ax bx)), .int .i64 (bminI ax ay bx by' (maxI ay by'))] 23) ∧ wx.heap[k8]? = some (.cells #[.int .i64 (minI ax bx), .int .i64 (minI ay by')] 23) ∧ wx.heap[k9]? = some (.cells #[.int .i64 (maxI ax bx), .int .i64 (maxI ay by')] 23) ∧ wx.heap[k10]? = some (.cells #[.int .i64 (minI cx dx), .int .i64 (minI cy dy)] 23) ∧ wx.heap[k11]? = some (.cells #[.int .i64 (maxI cx dx), .int .i64 (maxI cy dy)] 23))
  case first =>
    have hl : commonB ax ay bx by' cx cy dx dy = (decide (minI ax bx ≤ maxI cx dx) && decide (minI cx dx ≤ maxI ax bx) && decide (minI ay by' ≤ maxI cy dy) && decide (minI cy dy ≤ maxI ay by')) := rfl
    cases c1 : decide (minI ax bx ≤ maxI cx dx) <;> cases c2 : decide (minI cx dx ≤ maxI ax bx) <;> cases c3 : decide (minI ay by' ≤ maxI cy dy)
    all_goals
      have c1' := c1
      have c2' := c2
      have c3' := c3
      simp only [decide_eq_true_eq, decide_eq_false_iff_not] at c1' c2' c3'
      rw [c1, c2, c3] at hl
      have HL := Lib.hid hl
      clear hl
      refine plain_hid (fun W hW ops hops => ?_)
      subst hW
      have o5 : (ops[5]?).bind (fun x => x.dst) = some 65 := by rw [hops]; rfl
      have o12 : (ops[12]?).bind (fun x => x.dst) = some 72 := by rw [hops]; rfl
      have o19 : (ops[19]?).bind (fun x => x.dst) = some 79 := by rw [hops]; rfl
      clear hops
      have f56 : ∀ x : Later W [], x.w.cell? ⟨w.heap.size, 0, none⟩ = some (.int .i64 ax) := fun x => cell_of_block (Later.at0 g0 x) rfl
      have f57 : ∀ x : Later W [], x.w.cell? ⟨w.heap.size, 1, none⟩ = some (.int .i64 ay) := fun x => cell_of_block (Later.at0 g0 x) rfl
      have f58 : ∀ x : Later W [], x.w.cell? ⟨w.heap.size, 2, none⟩ = some (.int .i64 bx) := fun x => cell_of_block (Later.at0 g0 x) rfl
      have f59 : ∀ x : Later W [], x.w.cell? ⟨w.heap.size, 3, none⟩ = some (.int .i64 by') := fun x => cell_of_block (Later.at0 g0 x) rfl
      have f60 : ∀ x : Later W [], x.w.cell? ⟨w.heap.size + 1, 0, none⟩ = some (.int .i64 cx) := fun x => cell_of_block (Later.at0 g1 x) rfl
      have f61 : ∀ x : Later W [], x.w.cell? ⟨w.heap.size + 1, 1, none⟩ = some (.int .i64 cy) := fun x => cell_of_block (Later.at0 g1 x) rfl
      have f62 : ∀ x : Later W [], x.w.cell? ⟨w.heap.size + 1, 2, none⟩ = some (.int .i64 dx) := fun x => cell_of_block (Later.at0 g1 x) rfl
      have f63 : ∀ x : Later W [], x.w.cell? ⟨w.heap.size + 1, 3, none⟩ = some (.int .i64 dy) := fun x => cell_of_block (Later.at0 g1 x) rfl
      have f64 : ∀ x : Later W [], x.w.cell? ⟨k5, 0, none⟩ = some (.int .i64 (bminI ax ay bx by' (minI ax bx))) := fun x => cell_of_block (Later.at0 g2 x) rfl
      have f65 : ∀ x : Later W [], x.w.cell? ⟨k5, 1, none⟩ = some (.int .i64 (bminI ax ay bx by' (minI ay by'))) := fun x => cell_of_block (Later.at0 g2 x) rfl
      have f66 : ∀ x : Later W [], x.w.cell? ⟨k6, 0, none⟩ = some (.int .i64 (bminI ax ay bx by' (maxI ax bx))) := fun x => cell_of_block (Later.at0 g3 x) rfl
      have f67 : ∀ x : Later W [], x.w.cell? ⟨k6, 1, none⟩ = some (.int .i64 (bminI ax ay bx by' (maxI ay by'))) := fun x => cell_of_block (Later.at0 g3 x) rfl
      have f68 : ∀ x : Later W [], x.w.cell? ⟨k8, 0, none⟩ = some (.int .i64 (minI ax bx)) := fun x => cell_of_block (Later.at0 g4 x) rfl
      have f69 : ∀ x : Later W [], x.w.cell? ⟨k8, 1, none⟩ = some (.int .i64 (minI ay by')) := fun x => cell_of_block (Later.at0 g4 x) rfl
      have f70 : ∀ x : Later W [], x.w.cell? ⟨k9, 0, none⟩ = some (.int .i64 (maxI ax bx)) := fun x => cell_of_block (Later.at0 g5 x) rfl
      have f71 : ∀ x : Later W [], x.w.cell? ⟨k9, 1, none⟩ = some (.int .i64 (maxI ay by')) := fun x => cell_of_block (Later.at0 g5 x) rfl
      have f72 : ∀ x : Later W [], x.w.cell? ⟨k10, 0, none⟩ = some (.int .i64 (minI cx dx)) := fun x => cell_of_block (Later.at0 g6 x) rfl
      have f73 : ∀ x : Later W [], x.w.cell? ⟨k10, 1, none⟩ = some (.int .i64 (minI cy dy)) := fun x => cell_of_block (Later.at0 g6 x) rfl
      have f74 : ∀ x : Later W [], x.w.cell? ⟨k11, 0, none⟩ = some (.int .i64 (maxI cx dx)) := fun x => cell_of_block (Later.at0 g7 x) rfl
      have f75 : ∀ x : Later W [], x.w.cell? ⟨k11, 1, none⟩ = some (.int .i64 (maxI cy dy)) := fun x => cell_of_block (Later.at0 g7 x) rfl
      repeat (refine walkT_step (fun K hK => ?_); go_simp; first | (refine hK _ _ ?_; clear hK K) | (refine ⟨_, fun x => calm_ne2, ?_⟩; refine hK _ _ ?_; clear hK K) | (refine ⟨_, fun x => calm_eq2, ?_⟩; refine hK _ _ ?_; clear hK K))
      refine walkT_nil ?_
      intro w2 hc
      replace g0 := hc.at0 g0
      replace g1 := hc.at0 g1
      replace g2 := hc.at0 g2
      replace g3 := hc.at0 g3
      replace g4 := hc.at0 g4
      replace g5 := hc.at0 g5
      replace g6 := hc.at0 g6
      replace g7 := hc.at0 g7
      replace hb := hb.trans (hc.below.mono hb.size)
      replace hz := Nat.le_trans hz hc.kept.size
      clear hc o5 o12 o19 f56 f57 f58 f59 f60 f61 f62 f63 f64 f65 f66 f67 f68 f69 f70 f71 f72 f73 f74 f75 W
      go_wp2_with fail
      go_meet
      exact ⟨(congrArg Value.bool HL.out).symm, hb, hz, g0, g1, g2, g3, g4, g5, g6, g7⟩
  case rest =>
    obtain ⟨rfl, hb, hz, g0, g1, g2, g3, g4, g5, g6, g7⟩ := hcut
    have ha := apart_common ax ay bx by' cx cy dx dy h1 h2
    go_upto_region 9 with (fail)
    refine plain_hid (fun W hW ops hops => ?_)
    subst hW
    have o3 : (ops[3]?).bind (fun x => x.dst) = some 89 := by rw [hops]; rfl
    have o8 : (ops[8]?).bind (fun x => x.dst) = some 94 := by rw [hops]; rfl
    have o16 : (ops[16]?).bind (fun x => x.dst) = some 102 := by rw [hops]; rfl
    clear hops
    have f76 : ∀ x : Later W [], x.w.cell? ⟨w.heap.size, 0, none⟩ = some (.int .i64 ax) := fun x => cell_of_block (Later.at0 g0 x) rfl
    have f77 : ∀ x : Later W [], x.w.cell? ⟨w.heap.size, 1, none⟩ = some (.int .i64 ay) := fun x => cell_of_block (Later.at0 g0 x) rfl
    have f78 : ∀ x : Later W [], x.w.cell? ⟨w.heap.size, 2, none⟩ = some (.int .i64 bx) := fun x => cell_of_block (Later.at0 g0 x) rfl
    have f79 : ∀ x : Later W [], x.w.cell? ⟨w.heap.size, 3, none⟩ = some (.int .i64 by') := fun x => cell_of_block (Later.at0 g0 x) rfl
    have f80 : ∀ x : Later W [], x.w.cell? ⟨w.heap.size + 1, 0, none⟩ = some (.int .i64 cx) := fun x => cell_of_block (Later.at0 g1 x) rfl
    have f81 : ∀ x : Later W [], x.w.cell? ⟨w.heap.size + 1, 1, none⟩ = some (.int .i64 cy) := fun x => cell_of_block (Later.at0 g1 x) rfl
    have f82 : ∀ x : Later W [], x.w.cell? ⟨w.heap.size + 1, 2, none⟩ = some (.int .i64 dx) := fun x => cell_of_block (Later.at0 g1 x) rfl
    have f83 : ∀ x : Later W [], x.w.cell? ⟨w.heap.size + 1, 3, none⟩ = some (.int .i64 dy) := fun x => cell_of_block (Later.at0 g1 x) rfl
    have f84 : ∀ x : Later W [], x.w.cell? ⟨k5, 0, none⟩ = some (.int .i64 (bminI ax ay bx by' (minI ax bx))) := fun x => cell_of_block (Later.at0 g2 x) rfl
    have f85 : ∀ x : Later W [], x.w.cell? ⟨k5, 1, none⟩ = some (.int .i64 (bminI ax ay bx by' (minI ay by'))) := fun x => cell_of_block (Later.at0 g2 x) rfl
    have f86 : ∀ x : Later W [], x.w.cell? ⟨k6, 0, none⟩ = some (.int .i64 (bminI ax ay bx by' (maxI ax bx))) := fun x => cell_of_block (Later.at0 g3 x) rfl
    have f87 : ∀ x : Later W [], x.w.cell? ⟨k6, 1, none⟩ = some (.int .i64 (bminI ax ay bx by' (maxI ay by'))) := fun x => cell_of_block (Later.at0 g3 x) rfl
    have f88 : ∀ x : Later W [], x.w.cell? ⟨k8, 0, none⟩ = some (.int .i64 (minI ax bx)) := fun x => cell_of_block (Later.at0 g4 x) rfl
    have f89 : ∀ x : Later W [], x.w.cell? ⟨k8, 1, none⟩ = some (.int .i64 (minI ay by')) := fun x => cell_of_block (Later.at0 g4 x) rfl
    have f90 : ∀ x : Later W [], x.w.cell? ⟨k9, 0, none⟩ = some (.int .i64 (maxI ax bx)) := fun x => cell_of_block (Later.at0 g5 x) rfl
    have f91 : ∀ x : Later W [], x.w.cell? ⟨k9, 1, none⟩ = some (.int .i64 (maxI ay by')) := fun x => cell_of_block (Later.at0 g5 x) rfl
    have f92 : ∀ x : Later W [], x.w.cell? ⟨k10, 0, none⟩ = some (.int .i64 (minI cx dx)) := fun x => cell_of_block (Later.at0 g6 x) rfl
    have f93 : ∀ x : Later W [], x.w.cell? ⟨k10, 1, none⟩ = some (.int .i64 (minI cy dy)) := fun x => cell_of_block (Later.at0 g6 x) rfl
    have f94 : ∀ x : Later W [], x.w.cell? ⟨k11, 0, none⟩ = some (.int .i64 (maxI cx dx)) := fun x => cell_of_block (Later.at0 g7 x) rfl
    have f95 : ∀ x : Later W [], x.w.cell? ⟨k11, 1, none⟩ = some (.int .i64 (maxI cy dy)) := fun x => cell_of_block (Later.at0 g7 x) rfl
    repeat (refine walkT_step (fun K hK => ?_); go_simp; first | (refine hK _ _ ?_; clear hK K) | (refine ⟨_, fun x => calm_ne2, ?_⟩; refine hK _ _ ?_; clear hK K) | (refine ⟨_, fun x => calm_eq2, ?_⟩; refine hK _ _ ?_; clear hK K) | (refine ⟨_, fun x => line_any _ _ _ _ _, ?_⟩; refine hK _ _ ?_; clear hK K) | (refine ⟨_, fun x => refline_any _ _ _ _ _, ?_⟩; refine hK _ _ ?_; clear hK K) | (refine ⟨_, fun x => apart_any _ _ _ _ _ _ _ _ _, ?_⟩; refine hK _ _ ?_; clear hK K) | (refine ⟨_, fun x => awake_any _, ?_⟩; refine hK _ _ ?_; clear hK K))
    refine walkT_nil ?_
    intro w3 hc
    replace g0 := hc.at0 g0
    replace g1 := hc.at0 g1
    replace g2 := hc.at0 g2
    replace g3 := hc.at0 g3
    replace g4 := hc.at0 g4
    replace g5 := hc.at0 g5
    replace g6 := hc.at0 g6
    replace g7 := hc.at0 g7
    replace hb := hb.trans (hc.below.mono hb.size)
    replace hz := Nat.le_trans hz hc.kept.size
    clear hc o3 o8 o16 f76 f77 f78 f79 f80 f81 f82 f83 f84 f85 f86 f87 f88 f89 f90 f91 f92 f93 f94 f95 W
    go_wp2
    go_ret
    exact ⟨rfl, hb⟩

theorem boxes_all (ax ay bx by' cx cy dx dy : Int) (w : World) : Calls Try.prog 5 #[.agg #[.int .i64 ax, .int .i64 ay, .int .i64 bx, .int .i64 by'], .agg #[.int .i64 cx, .int .i64 cy, .int .i64 dx, .int .i64 dy]] w fun e w' => e = .returned (.bool true) ∧ Below w.heap.size w w' := by
  cases h1 : lineB ax ay bx by'
  · exact boxes_no ax ay bx by' cx cy dx dy w h1
  · cases h2 : lineB cx cy dx dy
    · exact boxes_half ax ay bx by' cx cy dx dy w h1 h2
    · exact boxes_yes ax ay bx by' cx cy dx dy w h1 h2

theorem tSeg : Try.prog.cellTypes Try.prog.depth 34 = some [3, 3, 3, 3] := by kernel_rfl
theorem cSeg : Try.prog.cellsOf 34 = 4 := by kernel_rfl
theorem uSeg : ∀ u, u ∈ ([3, 3, 3, 3] : List TypeId) → Try.prog.underlying u = some (.int .i64) := by
  intro u hu; simp at hu; subst hu; exact Try.underlying3


namespace pointBoxes
open Go.ChangeShapes Go.WideShapes Go.ChangeAt
theorem spec_is (H : Type) : ∀ ds : List (DataW H), ds.length = 2 → Rows.pointBoxesSpec.fn H ds = { results := [.lit (.bool true)], args := ds }
  | [], h => by cases h
  | [_], h => by cases h
  | [_, _], _ => rfl
  | _ :: _ :: _ :: _, h => by simp at h

theorem args_of {args : Array Value} (h : args.size = 2) : ∃ v0 v1, args = #[v0, v1] := by
  refine ⟨args[0], args[1], ?_⟩
  apply Array.ext
  · simpa using h
  · intro i h1 h2
    match i, h1 with
    | 0, _ => rfl
    | 1, _ => rfl
    | m + 2, hm => exact absurd hm (by omega)

set_option maxRecDepth 100000 in
theorem over : Rows.pointBoxesRow.holds Try.pinned (OpenSpec.ofChange Rows.pointBoxesSpec) :=
  OpenClaim.holds_of_wide 5 Try.f5 rfl rfl rfl rfl rfl rfl rfl ⟨rfl, rfl, rfl, rfl, rfl⟩ rfl rfl rfl rfl rfl (by kernel_rfl) Try.func5 (by kernel_rfl)
    (of_decide_eq_true (by kernel_rfl)) (by unfold Func.isWrapper; first | (rw [if_pos (by decide +kernel)]; kernel_rfl) | (rw [if_neg (by decide +kernel)]; exact ⟨rfl, rfl⟩))
    (fun os started H enc _ => Kit.lifted (C := Try.checked) (tb := 4) (n := 2) (by kernel_rfl) (by kernel_rfl) (by kernel_rfl) Try.func5 rfl (by kernel_rfl) Try.underlying4 (by kernel_rfl)
      (by
        have e : Try.f5.params.toList = [34, 34] := by rw [Try.params5]
        rw [e]
        intro t ht
        simp only [List.mem_cons, List.not_mem_nil, or_false] at ht
        rcases ht with rfl | rfl <;> exact ⟨by kernel_rfl, of_decide_eq_true (by kernel_rfl)⟩)
      spec_is
      (by
        intro W base args H enc ds p hn hval hA hfz hz
        obtain ⟨v0, v1, rfl⟩ := args_of hn
        rw [Try.params5] at hval
        have k0 := hval 0 34 v0 rfl rfl
        have k1 := hval 1 34 v1 rfl rfl
        clear hval
        obtain ⟨ax, ay, bx, by', rfl, _⟩ := Kit.agg4_of Try.underlying34 cSeg tSeg uSeg k0
        obtain ⟨cx, cy, dx, dy, rfl, _⟩ := Kit.agg4_of Try.underlying34 cSeg tSeg uSeg k1
        exact boxes_all ax ay bx by' cx cy dx dy W)
      os started H enc
      (ChangeSpec.witness6 (enc := enc) (C := Try.checked) false ⟨#[], #[.agg #[.int .i64 0, .int .i64 0, .int .i64 0, .int .i64 0], .agg #[.int .i64 0, .int .i64 0, .int .i64 0, .int .i64 0]], []⟩ 8 (by kernel_rfl) (by kernel_rfl) (by kernel_rfl) (by kernel_rfl)))
end pointBoxes

/-- THE STATEMENT. -/
theorem pointBoxes_holds : Rows.PointBoxesSaid := pointBoxes.over
#print axioms pointBoxes_holds

end Go.Proofs.Ytcpjgcpclekjkaa
