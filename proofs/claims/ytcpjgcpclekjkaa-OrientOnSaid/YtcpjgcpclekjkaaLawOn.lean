/-
  PROVED: OrientOn: a point that is on a line is on it turned about, touches it as an end of any line, and lies on neither side. CONDITIONS: none: for every line and two points.
-/
import Derived.Test.YtcpjgcpclekjkaaOri3
import Derived.Test.YtcpjgcpclekjkaaOriLaws
import Derived.Test.YtcpjgcpclekjkaaKit
import Derived.Lib.Hide
namespace Go.Proofs.Ytcpjgcpclekjkaa
open Go.RowKit Go.Proofs.Ytcpjgcpclekjkaa.Tame
set_option maxHeartbeats 400000


theorem tPt : Try.prog.cellTypes Try.prog.depth 23 = some [3, 3] := by kernel_rfl
theorem cPt : Try.prog.cellsOf 23 = 2 := by kernel_rfl
theorem uInt : ∀ u, u ∈ ([3, 3] : List TypeId) → Try.prog.underlying u = some (.int .i64) := by
  intro u hu; simp at hu; subst hu; exact Try.underlying3

theorem tSeg : Try.prog.cellTypes Try.prog.depth 34 = some [3, 3, 3, 3] := by kernel_rfl
theorem cSeg : Try.prog.cellsOf 34 = 4 := by kernel_rfl
theorem uSeg : ∀ u, u ∈ ([3, 3, 3, 3] : List TypeId) → Try.prog.underlying u = some (.int .i64) := by
  intro u hu; simp at hu; subst hu; exact Try.underlying3


theorem order_neg (ax ay bx by' px py qx qy : Int) : IntKind.i64.wrap (-orderI ax ay bx by' px py qx qy) = -orderI ax ay bx by' px py qx qy := by
  unfold orderI
  split
  · rcases cmp_cases (dotI ax ay bx by' px py) (dotI ax ay bx by' qx qy) with h | h | h <;> rw [h] <;> decide
  · decide
set_option maxHeartbeats 2000000 in
theorem ons_off (ax ay bx by' px py qx qy : Int) (w : World) (u1 : onB ax ay bx by' px py = false) : Calls Try.prog 7 #[.agg #[.int .i64 ax, .int .i64 ay, .int .i64 bx, .int .i64 by'], .agg #[.int .i64 px, .int .i64 py], .agg #[.int .i64 qx, .int .i64 qy]] w fun e w' => e = .returned (.bool true) ∧ Below w.heap.size w w' := by
  have r1 := on_rev ax ay bx by' px py
  have r2 := order_rev ax ay bx by' px py qx qy
  have r3 := order_neg bx by' ax ay px py qx qy
  go_enter Try.func7, Try.ntmps7
  go_upto_region 1 with (fail)
  refine plain_hid (fun W hW ops hops => ?_)
  have hb : Below w.heap.size w W := by rw [hW]; go_grown
  have hz : w.heap.size + 3 ≤ W.heap.size := by rw [hW]; simp
  have g0 : W.heap[w.heap.size]? = some (.cells #[.int .i64 ax, .int .i64 ay, .int .i64 bx, .int .i64 by'] 34) := by rw [hW]; exact heap_alloc_lt (heap_alloc_lt (heap_alloc_is (rfl)))
  have g1 : W.heap[w.heap.size + 1]? = some (.cells #[.int .i64 px, .int .i64 py] 23) := by rw [hW]; exact heap_alloc_lt (heap_alloc_is (by simp))
  have g2 : W.heap[w.heap.size + 1 + 1]? = some (.cells #[.int .i64 qx, .int .i64 qy] 23) := by rw [hW]; exact heap_alloc_is (by simp)
  clear hW
  clear hops
  have f0 : ∀ x : Later W [], x.w.cell? ⟨w.heap.size, 0, none⟩ = some (.int .i64 ax) := fun x => cell_of_block (Later.at0 g0 x) rfl
  have f1 : ∀ x : Later W [], x.w.cell? ⟨w.heap.size, 1, none⟩ = some (.int .i64 ay) := fun x => cell_of_block (Later.at0 g0 x) rfl
  have f2 : ∀ x : Later W [], x.w.cell? ⟨w.heap.size, 2, none⟩ = some (.int .i64 bx) := fun x => cell_of_block (Later.at0 g0 x) rfl
  have f3 : ∀ x : Later W [], x.w.cell? ⟨w.heap.size, 3, none⟩ = some (.int .i64 by') := fun x => cell_of_block (Later.at0 g0 x) rfl
  have f4 : ∀ x : Later W [], x.w.cell? ⟨w.heap.size + 1, 0, none⟩ = some (.int .i64 px) := fun x => cell_of_block (Later.at0 g1 x) rfl
  have f5 : ∀ x : Later W [], x.w.cell? ⟨w.heap.size + 1, 1, none⟩ = some (.int .i64 py) := fun x => cell_of_block (Later.at0 g1 x) rfl
  have f6 : ∀ x : Later W [], x.w.cell? ⟨w.heap.size + 1 + 1, 0, none⟩ = some (.int .i64 qx) := fun x => cell_of_block (Later.at0 g2 x) rfl
  have f7 : ∀ x : Later W [], x.w.cell? ⟨w.heap.size + 1 + 1, 1, none⟩ = some (.int .i64 qy) := fun x => cell_of_block (Later.at0 g2 x) rfl
  repeat (refine walkT_step (fun K hK => ?_); go_simp; first | (refine hK _ _ ?_; clear hK K))
  refine walkT_step (fun K hK => ?_)
  go_simp
  refine ⟨_, fun _ => rfl, fun k7 hk7 nk7 => hK _ _ ?_⟩; clear hK K
  clear nk7
  refine walkT_fill (k := k7) (ob := #[.int .i64 0, .int .i64 0, .int .i64 0, .int .i64 0]) (t := 34) (v := .agg #[.int .i64 bx, .int .i64 by', .int .i64 ax, .int .i64 ay]) rfl rfl rfl rfl (Gh.set_same _ _ _) rfl (by kernel_rfl) rfl rfl ?_
  refine walkT_nil ?_
  intro w1 hc
  replace g0 := hc.at0 g0
  replace g1 := hc.at0 g1
  replace g2 := hc.at0 g2
  have g3 : w1.heap[k7]? = some (.cells #[.int .i64 bx, .int .i64 by', .int .i64 ax, .int .i64 ay] 34) := (hc.own (k7) _ true (Gh.set_same _ _ _)).2
  replace hb := hb.trans (hc.below.mono hb.size)
  replace hk7 := Nat.le_trans hz hk7
  replace hz := Nat.le_trans hz hc.kept.size
  clear hc f0 f1 f2 f3 f4 f5 f6 f7 W
  go_upto_region 2 with (fail)
  refine draws_hid (by kernel_rfl) (by kernel_rfl) (by kernel_rfl) (fun W hW ops hops => ?_)
  subst hW
  have o7 : (ops[7]?).bind (fun x => x.dst) = some 21 := by rw [hops]; rfl
  clear hops
  have f8 : ∀ x : Later W [], x.w.cell? ⟨w.heap.size, 0, none⟩ = some (.int .i64 ax) := fun x => cell_of_block (Later.at0 g0 x) rfl
  have f9 : ∀ x : Later W [], x.w.cell? ⟨w.heap.size, 1, none⟩ = some (.int .i64 ay) := fun x => cell_of_block (Later.at0 g0 x) rfl
  have f10 : ∀ x : Later W [], x.w.cell? ⟨w.heap.size, 2, none⟩ = some (.int .i64 bx) := fun x => cell_of_block (Later.at0 g0 x) rfl
  have f11 : ∀ x : Later W [], x.w.cell? ⟨w.heap.size, 3, none⟩ = some (.int .i64 by') := fun x => cell_of_block (Later.at0 g0 x) rfl
  have f12 : ∀ x : Later W [], x.w.cell? ⟨w.heap.size + 1, 0, none⟩ = some (.int .i64 px) := fun x => cell_of_block (Later.at0 g1 x) rfl
  have f13 : ∀ x : Later W [], x.w.cell? ⟨w.heap.size + 1, 1, none⟩ = some (.int .i64 py) := fun x => cell_of_block (Later.at0 g1 x) rfl
  have f14 : ∀ x : Later W [], x.w.cell? ⟨w.heap.size + 1 + 1, 0, none⟩ = some (.int .i64 qx) := fun x => cell_of_block (Later.at0 g2 x) rfl
  have f15 : ∀ x : Later W [], x.w.cell? ⟨w.heap.size + 1 + 1, 1, none⟩ = some (.int .i64 qy) := fun x => cell_of_block (Later.at0 g2 x) rfl
  have f16 : ∀ x : Later W [], x.w.cell? ⟨k7, 0, none⟩ = some (.int .i64 bx) := fun x => cell_of_block (Later.at0 g3 x) rfl
  have f17 : ∀ x : Later W [], x.w.cell? ⟨k7, 1, none⟩ = some (.int .i64 by') := fun x => cell_of_block (Later.at0 g3 x) rfl
  have f18 : ∀ x : Later W [], x.w.cell? ⟨k7, 2, none⟩ = some (.int .i64 ax) := fun x => cell_of_block (Later.at0 g3 x) rfl
  have f19 : ∀ x : Later W [], x.w.cell? ⟨k7, 3, none⟩ = some (.int .i64 ay) := fun x => cell_of_block (Later.at0 g3 x) rfl
  repeat (refine walkT_step (fun K hK => ?_); go_simp; first | (refine hK _ _ ?_; clear hK K) | (refine ⟨_, fun x => on_any _ _ _ _ _ _ _, ?_⟩; refine hK _ _ ?_; clear hK K) | (refine ⟨_, fun x => order_any _ _ _ _ _ _ _ _ _, ?_⟩; refine hK _ _ ?_; clear hK K))
  refine walkT_nil ?_
  intro w1 hc
  replace g0 := hc.at0 g0
  replace g1 := hc.at0 g1
  replace g2 := hc.at0 g2
  replace g3 := hc.at0 g3
  replace hb := hb.trans (hc.below.mono hb.size)
  replace hz := Nat.le_trans hz hc.kept.size
  clear hc o7 f8 f9 f10 f11 f12 f13 f14 f15 f16 f17 f18 f19 W
  go_upto_region 4 with (fail)
  refine plain_hid (fun W hW ops hops => ?_)
  subst hW
  clear hops
  have f20 : ∀ x : Later W [], x.w.cell? ⟨w.heap.size, 0, none⟩ = some (.int .i64 ax) := fun x => cell_of_block (Later.at0 g0 x) rfl
  have f21 : ∀ x : Later W [], x.w.cell? ⟨w.heap.size, 1, none⟩ = some (.int .i64 ay) := fun x => cell_of_block (Later.at0 g0 x) rfl
  have f22 : ∀ x : Later W [], x.w.cell? ⟨w.heap.size, 2, none⟩ = some (.int .i64 bx) := fun x => cell_of_block (Later.at0 g0 x) rfl
  have f23 : ∀ x : Later W [], x.w.cell? ⟨w.heap.size, 3, none⟩ = some (.int .i64 by') := fun x => cell_of_block (Later.at0 g0 x) rfl
  have f24 : ∀ x : Later W [], x.w.cell? ⟨w.heap.size + 1, 0, none⟩ = some (.int .i64 px) := fun x => cell_of_block (Later.at0 g1 x) rfl
  have f25 : ∀ x : Later W [], x.w.cell? ⟨w.heap.size + 1, 1, none⟩ = some (.int .i64 py) := fun x => cell_of_block (Later.at0 g1 x) rfl
  have f26 : ∀ x : Later W [], x.w.cell? ⟨w.heap.size + 1 + 1, 0, none⟩ = some (.int .i64 qx) := fun x => cell_of_block (Later.at0 g2 x) rfl
  have f27 : ∀ x : Later W [], x.w.cell? ⟨w.heap.size + 1 + 1, 1, none⟩ = some (.int .i64 qy) := fun x => cell_of_block (Later.at0 g2 x) rfl
  have f28 : ∀ x : Later W [], x.w.cell? ⟨k7, 0, none⟩ = some (.int .i64 bx) := fun x => cell_of_block (Later.at0 g3 x) rfl
  have f29 : ∀ x : Later W [], x.w.cell? ⟨k7, 1, none⟩ = some (.int .i64 by') := fun x => cell_of_block (Later.at0 g3 x) rfl
  have f30 : ∀ x : Later W [], x.w.cell? ⟨k7, 2, none⟩ = some (.int .i64 ax) := fun x => cell_of_block (Later.at0 g3 x) rfl
  have f31 : ∀ x : Later W [], x.w.cell? ⟨k7, 3, none⟩ = some (.int .i64 ay) := fun x => cell_of_block (Later.at0 g3 x) rfl
  repeat (refine walkT_step (fun K hK => ?_); go_simp; first | (refine hK _ _ ?_; clear hK K) | (refine ⟨_, fun x => on_any _ _ _ _ _ _ _, ?_⟩; refine hK _ _ ?_; clear hK K))
  refine walkT_nil ?_
  intro w1 hc
  replace g0 := hc.at0 g0
  replace g1 := hc.at0 g1
  replace g2 := hc.at0 g2
  replace g3 := hc.at0 g3
  replace hb := hb.trans (hc.below.mono hb.size)
  replace hz := Nat.le_trans hz hc.kept.size
  clear hc f20 f21 f22 f23 f24 f25 f26 f27 f28 f29 f30 f31 W
  go_upto_region 5 with (fail)
  refine plain_hid (fun W hW ops hops => ?_)
  subst hW
  clear hops
  have f32 : ∀ x : Later W [], x.w.cell? ⟨w.heap.size, 0, none⟩ = some (.int .i64 ax) := fun x => cell_of_block (Later.at0 g0 x) rfl
  have f33 : ∀ x : Later W [], x.w.cell? ⟨w.heap.size, 1, none⟩ = some (.int .i64 ay) := fun x => cell_of_block (Later.at0 g0 x) rfl
  have f34 : ∀ x : Later W [], x.w.cell? ⟨w.heap.size, 2, none⟩ = some (.int .i64 bx) := fun x => cell_of_block (Later.at0 g0 x) rfl
  have f35 : ∀ x : Later W [], x.w.cell? ⟨w.heap.size, 3, none⟩ = some (.int .i64 by') := fun x => cell_of_block (Later.at0 g0 x) rfl
  have f36 : ∀ x : Later W [], x.w.cell? ⟨w.heap.size + 1, 0, none⟩ = some (.int .i64 px) := fun x => cell_of_block (Later.at0 g1 x) rfl
  have f37 : ∀ x : Later W [], x.w.cell? ⟨w.heap.size + 1, 1, none⟩ = some (.int .i64 py) := fun x => cell_of_block (Later.at0 g1 x) rfl
  have f38 : ∀ x : Later W [], x.w.cell? ⟨w.heap.size + 1 + 1, 0, none⟩ = some (.int .i64 qx) := fun x => cell_of_block (Later.at0 g2 x) rfl
  have f39 : ∀ x : Later W [], x.w.cell? ⟨w.heap.size + 1 + 1, 1, none⟩ = some (.int .i64 qy) := fun x => cell_of_block (Later.at0 g2 x) rfl
  have f40 : ∀ x : Later W [], x.w.cell? ⟨k7, 0, none⟩ = some (.int .i64 bx) := fun x => cell_of_block (Later.at0 g3 x) rfl
  have f41 : ∀ x : Later W [], x.w.cell? ⟨k7, 1, none⟩ = some (.int .i64 by') := fun x => cell_of_block (Later.at0 g3 x) rfl
  have f42 : ∀ x : Later W [], x.w.cell? ⟨k7, 2, none⟩ = some (.int .i64 ax) := fun x => cell_of_block (Later.at0 g3 x) rfl
  have f43 : ∀ x : Later W [], x.w.cell? ⟨k7, 3, none⟩ = some (.int .i64 ay) := fun x => cell_of_block (Later.at0 g3 x) rfl
  repeat (refine walkT_step (fun K hK => ?_); go_simp; first | (refine hK _ _ ?_; clear hK K) | (refine ⟨_, fun x => awake8_any _, ?_⟩; refine hK _ _ ?_; clear hK K))
  refine walkT_nil ?_
  intro w1 hc
  replace g0 := hc.at0 g0
  replace g1 := hc.at0 g1
  replace g2 := hc.at0 g2
  replace g3 := hc.at0 g3
  replace hb := hb.trans (hc.below.mono hb.size)
  replace hz := Nat.le_trans hz hc.kept.size
  clear hc f32 f33 f34 f35 f36 f37 f38 f39 f40 f41 f42 f43 W
  go_wp2
  go_ret
  exact ⟨rfl, hb⟩


set_option maxHeartbeats 2000000 in
theorem ons_false (ax ay bx by' px py qx qy : Int) (w : World) (u1 : onB ax ay bx by' px py = true) (l1 : lineB px py qx qy = false) : Calls Try.prog 7 #[.agg #[.int .i64 ax, .int .i64 ay, .int .i64 bx, .int .i64 by'], .agg #[.int .i64 px, .int .i64 py], .agg #[.int .i64 qx, .int .i64 qy]] w fun e w' => e = .returned (.bool true) ∧ Below w.heap.size w w' := by
  have r4 := (on_parts u1).2
  have r1 := on_rev ax ay bx by' px py
  have r2 := order_rev ax ay bx by' px py qx qy
  have r3 := order_neg bx by' ax ay px py qx qy
  go_enter Try.func7, Try.ntmps7
  go_upto_region 1 with (fail)
  refine plain_hid (fun W hW ops hops => ?_)
  have hb : Below w.heap.size w W := by rw [hW]; go_grown
  have hz : w.heap.size + 3 ≤ W.heap.size := by rw [hW]; simp
  have g0 : W.heap[w.heap.size]? = some (.cells #[.int .i64 ax, .int .i64 ay, .int .i64 bx, .int .i64 by'] 34) := by rw [hW]; exact heap_alloc_lt (heap_alloc_lt (heap_alloc_is (rfl)))
  have g1 : W.heap[w.heap.size + 1]? = some (.cells #[.int .i64 px, .int .i64 py] 23) := by rw [hW]; exact heap_alloc_lt (heap_alloc_is (by simp))
  have g2 : W.heap[w.heap.size + 1 + 1]? = some (.cells #[.int .i64 qx, .int .i64 qy] 23) := by rw [hW]; exact heap_alloc_is (by simp)
  clear hW
  clear hops
  have f0 : ∀ x : Later W [], x.w.cell? ⟨w.heap.size, 0, none⟩ = some (.int .i64 ax) := fun x => cell_of_block (Later.at0 g0 x) rfl
  have f1 : ∀ x : Later W [], x.w.cell? ⟨w.heap.size, 1, none⟩ = some (.int .i64 ay) := fun x => cell_of_block (Later.at0 g0 x) rfl
  have f2 : ∀ x : Later W [], x.w.cell? ⟨w.heap.size, 2, none⟩ = some (.int .i64 bx) := fun x => cell_of_block (Later.at0 g0 x) rfl
  have f3 : ∀ x : Later W [], x.w.cell? ⟨w.heap.size, 3, none⟩ = some (.int .i64 by') := fun x => cell_of_block (Later.at0 g0 x) rfl
  have f4 : ∀ x : Later W [], x.w.cell? ⟨w.heap.size + 1, 0, none⟩ = some (.int .i64 px) := fun x => cell_of_block (Later.at0 g1 x) rfl
  have f5 : ∀ x : Later W [], x.w.cell? ⟨w.heap.size + 1, 1, none⟩ = some (.int .i64 py) := fun x => cell_of_block (Later.at0 g1 x) rfl
  have f6 : ∀ x : Later W [], x.w.cell? ⟨w.heap.size + 1 + 1, 0, none⟩ = some (.int .i64 qx) := fun x => cell_of_block (Later.at0 g2 x) rfl
  have f7 : ∀ x : Later W [], x.w.cell? ⟨w.heap.size + 1 + 1, 1, none⟩ = some (.int .i64 qy) := fun x => cell_of_block (Later.at0 g2 x) rfl
  repeat (refine walkT_step (fun K hK => ?_); go_simp; first | (refine hK _ _ ?_; clear hK K))
  refine walkT_step (fun K hK => ?_)
  go_simp
  refine ⟨_, fun _ => rfl, fun k7 hk7 nk7 => hK _ _ ?_⟩; clear hK K
  clear nk7
  refine walkT_fill (k := k7) (ob := #[.int .i64 0, .int .i64 0, .int .i64 0, .int .i64 0]) (t := 34) (v := .agg #[.int .i64 bx, .int .i64 by', .int .i64 ax, .int .i64 ay]) rfl rfl rfl rfl (Gh.set_same _ _ _) rfl (by kernel_rfl) rfl rfl ?_
  refine walkT_nil ?_
  intro w1 hc
  replace g0 := hc.at0 g0
  replace g1 := hc.at0 g1
  replace g2 := hc.at0 g2
  have g3 : w1.heap[k7]? = some (.cells #[.int .i64 bx, .int .i64 by', .int .i64 ax, .int .i64 ay] 34) := (hc.own (k7) _ true (Gh.set_same _ _ _)).2
  replace hb := hb.trans (hc.below.mono hb.size)
  replace hk7 := Nat.le_trans hz hk7
  replace hz := Nat.le_trans hz hc.kept.size
  clear hc f0 f1 f2 f3 f4 f5 f6 f7 W
  go_upto_region 2 with (fail)
  refine draws_hid (by kernel_rfl) (by kernel_rfl) (by kernel_rfl) (fun W hW ops hops => ?_)
  subst hW
  have o7 : (ops[7]?).bind (fun x => x.dst) = some 21 := by rw [hops]; rfl
  clear hops
  have f8 : ∀ x : Later W [], x.w.cell? ⟨w.heap.size, 0, none⟩ = some (.int .i64 ax) := fun x => cell_of_block (Later.at0 g0 x) rfl
  have f9 : ∀ x : Later W [], x.w.cell? ⟨w.heap.size, 1, none⟩ = some (.int .i64 ay) := fun x => cell_of_block (Later.at0 g0 x) rfl
  have f10 : ∀ x : Later W [], x.w.cell? ⟨w.heap.size, 2, none⟩ = some (.int .i64 bx) := fun x => cell_of_block (Later.at0 g0 x) rfl
  have f11 : ∀ x : Later W [], x.w.cell? ⟨w.heap.size, 3, none⟩ = some (.int .i64 by') := fun x => cell_of_block (Later.at0 g0 x) rfl
  have f12 : ∀ x : Later W [], x.w.cell? ⟨w.heap.size + 1, 0, none⟩ = some (.int .i64 px) := fun x => cell_of_block (Later.at0 g1 x) rfl
  have f13 : ∀ x : Later W [], x.w.cell? ⟨w.heap.size + 1, 1, none⟩ = some (.int .i64 py) := fun x => cell_of_block (Later.at0 g1 x) rfl
  have f14 : ∀ x : Later W [], x.w.cell? ⟨w.heap.size + 1 + 1, 0, none⟩ = some (.int .i64 qx) := fun x => cell_of_block (Later.at0 g2 x) rfl
  have f15 : ∀ x : Later W [], x.w.cell? ⟨w.heap.size + 1 + 1, 1, none⟩ = some (.int .i64 qy) := fun x => cell_of_block (Later.at0 g2 x) rfl
  have f16 : ∀ x : Later W [], x.w.cell? ⟨k7, 0, none⟩ = some (.int .i64 bx) := fun x => cell_of_block (Later.at0 g3 x) rfl
  have f17 : ∀ x : Later W [], x.w.cell? ⟨k7, 1, none⟩ = some (.int .i64 by') := fun x => cell_of_block (Later.at0 g3 x) rfl
  have f18 : ∀ x : Later W [], x.w.cell? ⟨k7, 2, none⟩ = some (.int .i64 ax) := fun x => cell_of_block (Later.at0 g3 x) rfl
  have f19 : ∀ x : Later W [], x.w.cell? ⟨k7, 3, none⟩ = some (.int .i64 ay) := fun x => cell_of_block (Later.at0 g3 x) rfl
  repeat (refine walkT_step (fun K hK => ?_); go_simp; first | (refine hK _ _ ?_; clear hK K) | (refine ⟨_, fun x => on_any _ _ _ _ _ _ _, ?_⟩; refine hK _ _ ?_; clear hK K) | (refine ⟨_, fun x => order_any _ _ _ _ _ _ _ _ _, ?_⟩; refine hK _ _ ?_; clear hK K))
  refine walkT_nil ?_
  intro w1 hc
  replace g0 := hc.at0 g0
  replace g1 := hc.at0 g1
  replace g2 := hc.at0 g2
  replace g3 := hc.at0 g3
  replace hb := hb.trans (hc.below.mono hb.size)
  replace hz := Nat.le_trans hz hc.kept.size
  clear hc o7 f8 f9 f10 f11 f12 f13 f14 f15 f16 f17 f18 f19 W
  go_upto_region 4 with (fail)
  refine plain_hid (fun W hW ops hops => ?_)
  subst hW
  clear hops
  have f20 : ∀ x : Later W [], x.w.cell? ⟨w.heap.size, 0, none⟩ = some (.int .i64 ax) := fun x => cell_of_block (Later.at0 g0 x) rfl
  have f21 : ∀ x : Later W [], x.w.cell? ⟨w.heap.size, 1, none⟩ = some (.int .i64 ay) := fun x => cell_of_block (Later.at0 g0 x) rfl
  have f22 : ∀ x : Later W [], x.w.cell? ⟨w.heap.size, 2, none⟩ = some (.int .i64 bx) := fun x => cell_of_block (Later.at0 g0 x) rfl
  have f23 : ∀ x : Later W [], x.w.cell? ⟨w.heap.size, 3, none⟩ = some (.int .i64 by') := fun x => cell_of_block (Later.at0 g0 x) rfl
  have f24 : ∀ x : Later W [], x.w.cell? ⟨w.heap.size + 1, 0, none⟩ = some (.int .i64 px) := fun x => cell_of_block (Later.at0 g1 x) rfl
  have f25 : ∀ x : Later W [], x.w.cell? ⟨w.heap.size + 1, 1, none⟩ = some (.int .i64 py) := fun x => cell_of_block (Later.at0 g1 x) rfl
  have f26 : ∀ x : Later W [], x.w.cell? ⟨w.heap.size + 1 + 1, 0, none⟩ = some (.int .i64 qx) := fun x => cell_of_block (Later.at0 g2 x) rfl
  have f27 : ∀ x : Later W [], x.w.cell? ⟨w.heap.size + 1 + 1, 1, none⟩ = some (.int .i64 qy) := fun x => cell_of_block (Later.at0 g2 x) rfl
  have f28 : ∀ x : Later W [], x.w.cell? ⟨k7, 0, none⟩ = some (.int .i64 bx) := fun x => cell_of_block (Later.at0 g3 x) rfl
  have f29 : ∀ x : Later W [], x.w.cell? ⟨k7, 1, none⟩ = some (.int .i64 by') := fun x => cell_of_block (Later.at0 g3 x) rfl
  have f30 : ∀ x : Later W [], x.w.cell? ⟨k7, 2, none⟩ = some (.int .i64 ax) := fun x => cell_of_block (Later.at0 g3 x) rfl
  have f31 : ∀ x : Later W [], x.w.cell? ⟨k7, 3, none⟩ = some (.int .i64 ay) := fun x => cell_of_block (Later.at0 g3 x) rfl
  repeat (refine walkT_step (fun K hK => ?_); go_simp; first | (refine hK _ _ ?_; clear hK K) | (refine ⟨_, fun x => on_any _ _ _ _ _ _ _, ?_⟩; refine hK _ _ ?_; clear hK K))
  refine walkT_nil ?_
  intro w1 hc
  replace g0 := hc.at0 g0
  replace g1 := hc.at0 g1
  replace g2 := hc.at0 g2
  replace g3 := hc.at0 g3
  replace hb := hb.trans (hc.below.mono hb.size)
  replace hz := Nat.le_trans hz hc.kept.size
  clear hc f20 f21 f22 f23 f24 f25 f26 f27 f28 f29 f30 f31 W
  go_upto_region 6 with (fail)
  refine plain_hid (fun W hW ops hops => ?_)
  subst hW
  clear hops
  have f32 : ∀ x : Later W [], x.w.cell? ⟨w.heap.size, 0, none⟩ = some (.int .i64 ax) := fun x => cell_of_block (Later.at0 g0 x) rfl
  have f33 : ∀ x : Later W [], x.w.cell? ⟨w.heap.size, 1, none⟩ = some (.int .i64 ay) := fun x => cell_of_block (Later.at0 g0 x) rfl
  have f34 : ∀ x : Later W [], x.w.cell? ⟨w.heap.size, 2, none⟩ = some (.int .i64 bx) := fun x => cell_of_block (Later.at0 g0 x) rfl
  have f35 : ∀ x : Later W [], x.w.cell? ⟨w.heap.size, 3, none⟩ = some (.int .i64 by') := fun x => cell_of_block (Later.at0 g0 x) rfl
  have f36 : ∀ x : Later W [], x.w.cell? ⟨w.heap.size + 1, 0, none⟩ = some (.int .i64 px) := fun x => cell_of_block (Later.at0 g1 x) rfl
  have f37 : ∀ x : Later W [], x.w.cell? ⟨w.heap.size + 1, 1, none⟩ = some (.int .i64 py) := fun x => cell_of_block (Later.at0 g1 x) rfl
  have f38 : ∀ x : Later W [], x.w.cell? ⟨w.heap.size + 1 + 1, 0, none⟩ = some (.int .i64 qx) := fun x => cell_of_block (Later.at0 g2 x) rfl
  have f39 : ∀ x : Later W [], x.w.cell? ⟨w.heap.size + 1 + 1, 1, none⟩ = some (.int .i64 qy) := fun x => cell_of_block (Later.at0 g2 x) rfl
  have f40 : ∀ x : Later W [], x.w.cell? ⟨k7, 0, none⟩ = some (.int .i64 bx) := fun x => cell_of_block (Later.at0 g3 x) rfl
  have f41 : ∀ x : Later W [], x.w.cell? ⟨k7, 1, none⟩ = some (.int .i64 by') := fun x => cell_of_block (Later.at0 g3 x) rfl
  have f42 : ∀ x : Later W [], x.w.cell? ⟨k7, 2, none⟩ = some (.int .i64 ax) := fun x => cell_of_block (Later.at0 g3 x) rfl
  have f43 : ∀ x : Later W [], x.w.cell? ⟨k7, 3, none⟩ = some (.int .i64 ay) := fun x => cell_of_block (Later.at0 g3 x) rfl
  repeat (refine walkT_step (fun K hK => ?_); go_simp; first | (refine hK _ _ ?_; clear hK K))
  refine walkT_step (fun K hK => ?_)
  go_simp
  refine ⟨_, fun _ => rfl, fun k8 hk8 nk8 => hK _ _ ?_⟩; clear hK K
  clear nk8
  refine walkT_fill (k := k8) (ob := #[.int .i64 0, .int .i64 0, .int .i64 0, .int .i64 0]) (t := 34) (v := .agg #[.int .i64 px, .int .i64 py, .int .i64 qx, .int .i64 qy]) rfl rfl rfl rfl (Gh.set_same _ _ _) rfl (by kernel_rfl) rfl rfl ?_
  refine walkT_nil ?_
  intro w1 hc
  replace g0 := hc.at0 g0
  replace g1 := hc.at0 g1
  replace g2 := hc.at0 g2
  replace g3 := hc.at0 g3
  have g4 : w1.heap[k8]? = some (.cells #[.int .i64 px, .int .i64 py, .int .i64 qx, .int .i64 qy] 34) := (hc.own (k8) _ true (Gh.set_same _ _ _)).2
  replace hb := hb.trans (hc.below.mono hb.size)
  replace hk8 := Nat.le_trans hz hk8
  replace hz := Nat.le_trans hz hc.kept.size
  clear hc f32 f33 f34 f35 f36 f37 f38 f39 f40 f41 f42 f43 W
  go_upto_region 7 with (fail)
  refine plain_hid (fun W hW ops hops => ?_)
  subst hW
  have o7 : (ops[7]?).bind (fun x => x.dst) = some 48 := by rw [hops]; rfl
  have o11 : (ops[11]?).bind (fun x => x.dst) = some 52 := by rw [hops]; rfl
  have o17 : (ops[17]?).bind (fun x => x.dst) = some 58 := by rw [hops]; rfl
  clear hops
  have f44 : ∀ x : Later W [], x.w.cell? ⟨w.heap.size, 0, none⟩ = some (.int .i64 ax) := fun x => cell_of_block (Later.at0 g0 x) rfl
  have f45 : ∀ x : Later W [], x.w.cell? ⟨w.heap.size, 1, none⟩ = some (.int .i64 ay) := fun x => cell_of_block (Later.at0 g0 x) rfl
  have f46 : ∀ x : Later W [], x.w.cell? ⟨w.heap.size, 2, none⟩ = some (.int .i64 bx) := fun x => cell_of_block (Later.at0 g0 x) rfl
  have f47 : ∀ x : Later W [], x.w.cell? ⟨w.heap.size, 3, none⟩ = some (.int .i64 by') := fun x => cell_of_block (Later.at0 g0 x) rfl
  have f48 : ∀ x : Later W [], x.w.cell? ⟨w.heap.size + 1, 0, none⟩ = some (.int .i64 px) := fun x => cell_of_block (Later.at0 g1 x) rfl
  have f49 : ∀ x : Later W [], x.w.cell? ⟨w.heap.size + 1, 1, none⟩ = some (.int .i64 py) := fun x => cell_of_block (Later.at0 g1 x) rfl
  have f50 : ∀ x : Later W [], x.w.cell? ⟨w.heap.size + 1 + 1, 0, none⟩ = some (.int .i64 qx) := fun x => cell_of_block (Later.at0 g2 x) rfl
  have f51 : ∀ x : Later W [], x.w.cell? ⟨w.heap.size + 1 + 1, 1, none⟩ = some (.int .i64 qy) := fun x => cell_of_block (Later.at0 g2 x) rfl
  have f52 : ∀ x : Later W [], x.w.cell? ⟨k7, 0, none⟩ = some (.int .i64 bx) := fun x => cell_of_block (Later.at0 g3 x) rfl
  have f53 : ∀ x : Later W [], x.w.cell? ⟨k7, 1, none⟩ = some (.int .i64 by') := fun x => cell_of_block (Later.at0 g3 x) rfl
  have f54 : ∀ x : Later W [], x.w.cell? ⟨k7, 2, none⟩ = some (.int .i64 ax) := fun x => cell_of_block (Later.at0 g3 x) rfl
  have f55 : ∀ x : Later W [], x.w.cell? ⟨k7, 3, none⟩ = some (.int .i64 ay) := fun x => cell_of_block (Later.at0 g3 x) rfl
  have f56 : ∀ x : Later W [], x.w.cell? ⟨k8, 0, none⟩ = some (.int .i64 px) := fun x => cell_of_block (Later.at0 g4 x) rfl
  have f57 : ∀ x : Later W [], x.w.cell? ⟨k8, 1, none⟩ = some (.int .i64 py) := fun x => cell_of_block (Later.at0 g4 x) rfl
  have f58 : ∀ x : Later W [], x.w.cell? ⟨k8, 2, none⟩ = some (.int .i64 qx) := fun x => cell_of_block (Later.at0 g4 x) rfl
  have f59 : ∀ x : Later W [], x.w.cell? ⟨k8, 3, none⟩ = some (.int .i64 qy) := fun x => cell_of_block (Later.at0 g4 x) rfl
  repeat (refine walkT_step (fun K hK => ?_); go_simp; first | (refine hK _ _ ?_; clear hK K) | (refine ⟨_, fun x => side_any _ _ _ _ _ _ _, ?_⟩; refine hK _ _ ?_; clear hK K) | (refine ⟨_, fun x => refline_any _ _ _ _ _, ?_⟩; refine hK _ _ ?_; clear hK K) | (refine ⟨_, fun x => touch_any _ _ _ _ _ _ _ _ _, ?_⟩; refine hK _ _ ?_; clear hK K) | (refine ⟨_, fun x => awake8_any _, ?_⟩; refine hK _ _ ?_; clear hK K))
  refine walkT_nil ?_
  intro w2 hc
  replace g0 := hc.at0 g0
  replace g1 := hc.at0 g1
  replace g2 := hc.at0 g2
  replace g3 := hc.at0 g3
  replace g4 := hc.at0 g4
  replace hb := hb.trans (hc.below.mono hb.size)
  replace hz := Nat.le_trans hz hc.kept.size
  clear hc o7 o11 o17 f44 f45 f46 f47 f48 f49 f50 f51 f52 f53 f54 f55 f56 f57 f58 f59 W
  go_wp2
  go_ret
  exact ⟨rfl, hb⟩


set_option maxHeartbeats 2000000 in
theorem ons_true (ax ay bx by' px py qx qy : Int) (w : World) (u1 : onB ax ay bx by' px py = true) (l1 : lineB px py qx qy = true) : Calls Try.prog 7 #[.agg #[.int .i64 ax, .int .i64 ay, .int .i64 bx, .int .i64 by'], .agg #[.int .i64 px, .int .i64 py], .agg #[.int .i64 qx, .int .i64 qy]] w fun e w' => e = .returned (.bool true) ∧ Below w.heap.size w w' := by
  have r4 := (on_parts u1).2
  have ht : touchB ax ay bx by' px py qx qy = true := by unfold touchB; rw [(on_parts u1).1, l1, u1]; rfl
  have r1 := on_rev ax ay bx by' px py
  have r2 := order_rev ax ay bx by' px py qx qy
  have r3 := order_neg bx by' ax ay px py qx qy
  go_enter Try.func7, Try.ntmps7
  go_upto_region 1 with (fail)
  refine plain_hid (fun W hW ops hops => ?_)
  have hb : Below w.heap.size w W := by rw [hW]; go_grown
  have hz : w.heap.size + 3 ≤ W.heap.size := by rw [hW]; simp
  have g0 : W.heap[w.heap.size]? = some (.cells #[.int .i64 ax, .int .i64 ay, .int .i64 bx, .int .i64 by'] 34) := by rw [hW]; exact heap_alloc_lt (heap_alloc_lt (heap_alloc_is (rfl)))
  have g1 : W.heap[w.heap.size + 1]? = some (.cells #[.int .i64 px, .int .i64 py] 23) := by rw [hW]; exact heap_alloc_lt (heap_alloc_is (by simp))
  have g2 : W.heap[w.heap.size + 1 + 1]? = some (.cells #[.int .i64 qx, .int .i64 qy] 23) := by rw [hW]; exact heap_alloc_is (by simp)
  clear hW
  clear hops
  have f0 : ∀ x : Later W [], x.w.cell? ⟨w.heap.size, 0, none⟩ = some (.int .i64 ax) := fun x => cell_of_block (Later.at0 g0 x) rfl
  have f1 : ∀ x : Later W [], x.w.cell? ⟨w.heap.size, 1, none⟩ = some (.int .i64 ay) := fun x => cell_of_block (Later.at0 g0 x) rfl
  have f2 : ∀ x : Later W [], x.w.cell? ⟨w.heap.size, 2, none⟩ = some (.int .i64 bx) := fun x => cell_of_block (Later.at0 g0 x) rfl
  have f3 : ∀ x : Later W [], x.w.cell? ⟨w.heap.size, 3, none⟩ = some (.int .i64 by') := fun x => cell_of_block (Later.at0 g0 x) rfl
  have f4 : ∀ x : Later W [], x.w.cell? ⟨w.heap.size + 1, 0, none⟩ = some (.int .i64 px) := fun x => cell_of_block (Later.at0 g1 x) rfl
  have f5 : ∀ x : Later W [], x.w.cell? ⟨w.heap.size + 1, 1, none⟩ = some (.int .i64 py) := fun x => cell_of_block (Later.at0 g1 x) rfl
  have f6 : ∀ x : Later W [], x.w.cell? ⟨w.heap.size + 1 + 1, 0, none⟩ = some (.int .i64 qx) := fun x => cell_of_block (Later.at0 g2 x) rfl
  have f7 : ∀ x : Later W [], x.w.cell? ⟨w.heap.size + 1 + 1, 1, none⟩ = some (.int .i64 qy) := fun x => cell_of_block (Later.at0 g2 x) rfl
  repeat (refine walkT_step (fun K hK => ?_); go_simp; first | (refine hK _ _ ?_; clear hK K))
  refine walkT_step (fun K hK => ?_)
  go_simp
  refine ⟨_, fun _ => rfl, fun k7 hk7 nk7 => hK _ _ ?_⟩; clear hK K
  clear nk7
  refine walkT_fill (k := k7) (ob := #[.int .i64 0, .int .i64 0, .int .i64 0, .int .i64 0]) (t := 34) (v := .agg #[.int .i64 bx, .int .i64 by', .int .i64 ax, .int .i64 ay]) rfl rfl rfl rfl (Gh.set_same _ _ _) rfl (by kernel_rfl) rfl rfl ?_
  refine walkT_nil ?_
  intro w1 hc
  replace g0 := hc.at0 g0
  replace g1 := hc.at0 g1
  replace g2 := hc.at0 g2
  have g3 : w1.heap[k7]? = some (.cells #[.int .i64 bx, .int .i64 by', .int .i64 ax, .int .i64 ay] 34) := (hc.own (k7) _ true (Gh.set_same _ _ _)).2
  replace hb := hb.trans (hc.below.mono hb.size)
  replace hk7 := Nat.le_trans hz hk7
  replace hz := Nat.le_trans hz hc.kept.size
  clear hc f0 f1 f2 f3 f4 f5 f6 f7 W
  go_upto_region 2 with (fail)
  refine draws_hid (by kernel_rfl) (by kernel_rfl) (by kernel_rfl) (fun W hW ops hops => ?_)
  subst hW
  have o7 : (ops[7]?).bind (fun x => x.dst) = some 21 := by rw [hops]; rfl
  clear hops
  have f8 : ∀ x : Later W [], x.w.cell? ⟨w.heap.size, 0, none⟩ = some (.int .i64 ax) := fun x => cell_of_block (Later.at0 g0 x) rfl
  have f9 : ∀ x : Later W [], x.w.cell? ⟨w.heap.size, 1, none⟩ = some (.int .i64 ay) := fun x => cell_of_block (Later.at0 g0 x) rfl
  have f10 : ∀ x : Later W [], x.w.cell? ⟨w.heap.size, 2, none⟩ = some (.int .i64 bx) := fun x => cell_of_block (Later.at0 g0 x) rfl
  have f11 : ∀ x : Later W [], x.w.cell? ⟨w.heap.size, 3, none⟩ = some (.int .i64 by') := fun x => cell_of_block (Later.at0 g0 x) rfl
  have f12 : ∀ x : Later W [], x.w.cell? ⟨w.heap.size + 1, 0, none⟩ = some (.int .i64 px) := fun x => cell_of_block (Later.at0 g1 x) rfl
  have f13 : ∀ x : Later W [], x.w.cell? ⟨w.heap.size + 1, 1, none⟩ = some (.int .i64 py) := fun x => cell_of_block (Later.at0 g1 x) rfl
  have f14 : ∀ x : Later W [], x.w.cell? ⟨w.heap.size + 1 + 1, 0, none⟩ = some (.int .i64 qx) := fun x => cell_of_block (Later.at0 g2 x) rfl
  have f15 : ∀ x : Later W [], x.w.cell? ⟨w.heap.size + 1 + 1, 1, none⟩ = some (.int .i64 qy) := fun x => cell_of_block (Later.at0 g2 x) rfl
  have f16 : ∀ x : Later W [], x.w.cell? ⟨k7, 0, none⟩ = some (.int .i64 bx) := fun x => cell_of_block (Later.at0 g3 x) rfl
  have f17 : ∀ x : Later W [], x.w.cell? ⟨k7, 1, none⟩ = some (.int .i64 by') := fun x => cell_of_block (Later.at0 g3 x) rfl
  have f18 : ∀ x : Later W [], x.w.cell? ⟨k7, 2, none⟩ = some (.int .i64 ax) := fun x => cell_of_block (Later.at0 g3 x) rfl
  have f19 : ∀ x : Later W [], x.w.cell? ⟨k7, 3, none⟩ = some (.int .i64 ay) := fun x => cell_of_block (Later.at0 g3 x) rfl
  repeat (refine walkT_step (fun K hK => ?_); go_simp; first | (refine hK _ _ ?_; clear hK K) | (refine ⟨_, fun x => on_any _ _ _ _ _ _ _, ?_⟩; refine hK _ _ ?_; clear hK K) | (refine ⟨_, fun x => order_any _ _ _ _ _ _ _ _ _, ?_⟩; refine hK _ _ ?_; clear hK K))
  refine walkT_nil ?_
  intro w1 hc
  replace g0 := hc.at0 g0
  replace g1 := hc.at0 g1
  replace g2 := hc.at0 g2
  replace g3 := hc.at0 g3
  replace hb := hb.trans (hc.below.mono hb.size)
  replace hz := Nat.le_trans hz hc.kept.size
  clear hc o7 f8 f9 f10 f11 f12 f13 f14 f15 f16 f17 f18 f19 W
  go_upto_region 4 with (fail)
  refine plain_hid (fun W hW ops hops => ?_)
  subst hW
  clear hops
  have f20 : ∀ x : Later W [], x.w.cell? ⟨w.heap.size, 0, none⟩ = some (.int .i64 ax) := fun x => cell_of_block (Later.at0 g0 x) rfl
  have f21 : ∀ x : Later W [], x.w.cell? ⟨w.heap.size, 1, none⟩ = some (.int .i64 ay) := fun x => cell_of_block (Later.at0 g0 x) rfl
  have f22 : ∀ x : Later W [], x.w.cell? ⟨w.heap.size, 2, none⟩ = some (.int .i64 bx) := fun x => cell_of_block (Later.at0 g0 x) rfl
  have f23 : ∀ x : Later W [], x.w.cell? ⟨w.heap.size, 3, none⟩ = some (.int .i64 by') := fun x => cell_of_block (Later.at0 g0 x) rfl
  have f24 : ∀ x : Later W [], x.w.cell? ⟨w.heap.size + 1, 0, none⟩ = some (.int .i64 px) := fun x => cell_of_block (Later.at0 g1 x) rfl
  have f25 : ∀ x : Later W [], x.w.cell? ⟨w.heap.size + 1, 1, none⟩ = some (.int .i64 py) := fun x => cell_of_block (Later.at0 g1 x) rfl
  have f26 : ∀ x : Later W [], x.w.cell? ⟨w.heap.size + 1 + 1, 0, none⟩ = some (.int .i64 qx) := fun x => cell_of_block (Later.at0 g2 x) rfl
  have f27 : ∀ x : Later W [], x.w.cell? ⟨w.heap.size + 1 + 1, 1, none⟩ = some (.int .i64 qy) := fun x => cell_of_block (Later.at0 g2 x) rfl
  have f28 : ∀ x : Later W [], x.w.cell? ⟨k7, 0, none⟩ = some (.int .i64 bx) := fun x => cell_of_block (Later.at0 g3 x) rfl
  have f29 : ∀ x : Later W [], x.w.cell? ⟨k7, 1, none⟩ = some (.int .i64 by') := fun x => cell_of_block (Later.at0 g3 x) rfl
  have f30 : ∀ x : Later W [], x.w.cell? ⟨k7, 2, none⟩ = some (.int .i64 ax) := fun x => cell_of_block (Later.at0 g3 x) rfl
  have f31 : ∀ x : Later W [], x.w.cell? ⟨k7, 3, none⟩ = some (.int .i64 ay) := fun x => cell_of_block (Later.at0 g3 x) rfl
  repeat (refine walkT_step (fun K hK => ?_); go_simp; first | (refine hK _ _ ?_; clear hK K) | (refine ⟨_, fun x => on_any _ _ _ _ _ _ _, ?_⟩; refine hK _ _ ?_; clear hK K))
  refine walkT_nil ?_
  intro w1 hc
  replace g0 := hc.at0 g0
  replace g1 := hc.at0 g1
  replace g2 := hc.at0 g2
  replace g3 := hc.at0 g3
  replace hb := hb.trans (hc.below.mono hb.size)
  replace hz := Nat.le_trans hz hc.kept.size
  clear hc f20 f21 f22 f23 f24 f25 f26 f27 f28 f29 f30 f31 W
  go_upto_region 6 with (fail)
  refine plain_hid (fun W hW ops hops => ?_)
  subst hW
  clear hops
  have f32 : ∀ x : Later W [], x.w.cell? ⟨w.heap.size, 0, none⟩ = some (.int .i64 ax) := fun x => cell_of_block (Later.at0 g0 x) rfl
  have f33 : ∀ x : Later W [], x.w.cell? ⟨w.heap.size, 1, none⟩ = some (.int .i64 ay) := fun x => cell_of_block (Later.at0 g0 x) rfl
  have f34 : ∀ x : Later W [], x.w.cell? ⟨w.heap.size, 2, none⟩ = some (.int .i64 bx) := fun x => cell_of_block (Later.at0 g0 x) rfl
  have f35 : ∀ x : Later W [], x.w.cell? ⟨w.heap.size, 3, none⟩ = some (.int .i64 by') := fun x => cell_of_block (Later.at0 g0 x) rfl
  have f36 : ∀ x : Later W [], x.w.cell? ⟨w.heap.size + 1, 0, none⟩ = some (.int .i64 px) := fun x => cell_of_block (Later.at0 g1 x) rfl
  have f37 : ∀ x : Later W [], x.w.cell? ⟨w.heap.size + 1, 1, none⟩ = some (.int .i64 py) := fun x => cell_of_block (Later.at0 g1 x) rfl
  have f38 : ∀ x : Later W [], x.w.cell? ⟨w.heap.size + 1 + 1, 0, none⟩ = some (.int .i64 qx) := fun x => cell_of_block (Later.at0 g2 x) rfl
  have f39 : ∀ x : Later W [], x.w.cell? ⟨w.heap.size + 1 + 1, 1, none⟩ = some (.int .i64 qy) := fun x => cell_of_block (Later.at0 g2 x) rfl
  have f40 : ∀ x : Later W [], x.w.cell? ⟨k7, 0, none⟩ = some (.int .i64 bx) := fun x => cell_of_block (Later.at0 g3 x) rfl
  have f41 : ∀ x : Later W [], x.w.cell? ⟨k7, 1, none⟩ = some (.int .i64 by') := fun x => cell_of_block (Later.at0 g3 x) rfl
  have f42 : ∀ x : Later W [], x.w.cell? ⟨k7, 2, none⟩ = some (.int .i64 ax) := fun x => cell_of_block (Later.at0 g3 x) rfl
  have f43 : ∀ x : Later W [], x.w.cell? ⟨k7, 3, none⟩ = some (.int .i64 ay) := fun x => cell_of_block (Later.at0 g3 x) rfl
  repeat (refine walkT_step (fun K hK => ?_); go_simp; first | (refine hK _ _ ?_; clear hK K))
  refine walkT_step (fun K hK => ?_)
  go_simp
  refine ⟨_, fun _ => rfl, fun k8 hk8 nk8 => hK _ _ ?_⟩; clear hK K
  clear nk8
  refine walkT_fill (k := k8) (ob := #[.int .i64 0, .int .i64 0, .int .i64 0, .int .i64 0]) (t := 34) (v := .agg #[.int .i64 px, .int .i64 py, .int .i64 qx, .int .i64 qy]) rfl rfl rfl rfl (Gh.set_same _ _ _) rfl (by kernel_rfl) rfl rfl ?_
  refine walkT_nil ?_
  intro w1 hc
  replace g0 := hc.at0 g0
  replace g1 := hc.at0 g1
  replace g2 := hc.at0 g2
  replace g3 := hc.at0 g3
  have g4 : w1.heap[k8]? = some (.cells #[.int .i64 px, .int .i64 py, .int .i64 qx, .int .i64 qy] 34) := (hc.own (k8) _ true (Gh.set_same _ _ _)).2
  replace hb := hb.trans (hc.below.mono hb.size)
  replace hk8 := Nat.le_trans hz hk8
  replace hz := Nat.le_trans hz hc.kept.size
  clear hc f32 f33 f34 f35 f36 f37 f38 f39 f40 f41 f42 f43 W
  go_upto_region 7 with (fail)
  refine plain_hid (fun W hW ops hops => ?_)
  subst hW
  have o7 : (ops[7]?).bind (fun x => x.dst) = some 48 := by rw [hops]; rfl
  have o11 : (ops[11]?).bind (fun x => x.dst) = some 52 := by rw [hops]; rfl
  have o17 : (ops[17]?).bind (fun x => x.dst) = some 58 := by rw [hops]; rfl
  clear hops
  have f44 : ∀ x : Later W [], x.w.cell? ⟨w.heap.size, 0, none⟩ = some (.int .i64 ax) := fun x => cell_of_block (Later.at0 g0 x) rfl
  have f45 : ∀ x : Later W [], x.w.cell? ⟨w.heap.size, 1, none⟩ = some (.int .i64 ay) := fun x => cell_of_block (Later.at0 g0 x) rfl
  have f46 : ∀ x : Later W [], x.w.cell? ⟨w.heap.size, 2, none⟩ = some (.int .i64 bx) := fun x => cell_of_block (Later.at0 g0 x) rfl
  have f47 : ∀ x : Later W [], x.w.cell? ⟨w.heap.size, 3, none⟩ = some (.int .i64 by') := fun x => cell_of_block (Later.at0 g0 x) rfl
  have f48 : ∀ x : Later W [], x.w.cell? ⟨w.heap.size + 1, 0, none⟩ = some (.int .i64 px) := fun x => cell_of_block (Later.at0 g1 x) rfl
  have f49 : ∀ x : Later W [], x.w.cell? ⟨w.heap.size + 1, 1, none⟩ = some (.int .i64 py) := fun x => cell_of_block (Later.at0 g1 x) rfl
  have f50 : ∀ x : Later W [], x.w.cell? ⟨w.heap.size + 1 + 1, 0, none⟩ = some (.int .i64 qx) := fun x => cell_of_block (Later.at0 g2 x) rfl
  have f51 : ∀ x : Later W [], x.w.cell? ⟨w.heap.size + 1 + 1, 1, none⟩ = some (.int .i64 qy) := fun x => cell_of_block (Later.at0 g2 x) rfl
  have f52 : ∀ x : Later W [], x.w.cell? ⟨k7, 0, none⟩ = some (.int .i64 bx) := fun x => cell_of_block (Later.at0 g3 x) rfl
  have f53 : ∀ x : Later W [], x.w.cell? ⟨k7, 1, none⟩ = some (.int .i64 by') := fun x => cell_of_block (Later.at0 g3 x) rfl
  have f54 : ∀ x : Later W [], x.w.cell? ⟨k7, 2, none⟩ = some (.int .i64 ax) := fun x => cell_of_block (Later.at0 g3 x) rfl
  have f55 : ∀ x : Later W [], x.w.cell? ⟨k7, 3, none⟩ = some (.int .i64 ay) := fun x => cell_of_block (Later.at0 g3 x) rfl
  have f56 : ∀ x : Later W [], x.w.cell? ⟨k8, 0, none⟩ = some (.int .i64 px) := fun x => cell_of_block (Later.at0 g4 x) rfl
  have f57 : ∀ x : Later W [], x.w.cell? ⟨k8, 1, none⟩ = some (.int .i64 py) := fun x => cell_of_block (Later.at0 g4 x) rfl
  have f58 : ∀ x : Later W [], x.w.cell? ⟨k8, 2, none⟩ = some (.int .i64 qx) := fun x => cell_of_block (Later.at0 g4 x) rfl
  have f59 : ∀ x : Later W [], x.w.cell? ⟨k8, 3, none⟩ = some (.int .i64 qy) := fun x => cell_of_block (Later.at0 g4 x) rfl
  repeat (refine walkT_step (fun K hK => ?_); go_simp; first | (refine hK _ _ ?_; clear hK K) | (refine ⟨_, fun x => side_any _ _ _ _ _ _ _, ?_⟩; refine hK _ _ ?_; clear hK K) | (refine ⟨_, fun x => refline_any _ _ _ _ _, ?_⟩; refine hK _ _ ?_; clear hK K) | (refine ⟨_, fun x => touch_any _ _ _ _ _ _ _ _ _, ?_⟩; refine hK _ _ ?_; clear hK K) | (refine ⟨_, fun x => awake8_any _, ?_⟩; refine hK _ _ ?_; clear hK K))
  refine walkT_nil ?_
  intro w2 hc
  replace g0 := hc.at0 g0
  replace g1 := hc.at0 g1
  replace g2 := hc.at0 g2
  replace g3 := hc.at0 g3
  replace g4 := hc.at0 g4
  replace hb := hb.trans (hc.below.mono hb.size)
  replace hz := Nat.le_trans hz hc.kept.size
  clear hc o7 o11 o17 f44 f45 f46 f47 f48 f49 f50 f51 f52 f53 f54 f55 f56 f57 f58 f59 W
  go_wp2
  go_ret
  exact ⟨rfl, hb⟩


theorem ons_all (ax ay bx by' px py qx qy : Int) (w : World) : Calls Try.prog 7 #[.agg #[.int .i64 ax, .int .i64 ay, .int .i64 bx, .int .i64 by'], .agg #[.int .i64 px, .int .i64 py], .agg #[.int .i64 qx, .int .i64 qy]] w fun e w' => e = .returned (.bool true) ∧ Below w.heap.size w w' := by
  cases u1 : onB ax ay bx by' px py
  · exact ons_off ax ay bx by' px py qx qy w u1
  · cases l1 : lineB px py qx qy
    · exact ons_false ax ay bx by' px py qx qy w u1 l1
    · exact ons_true ax ay bx by' px py qx qy w u1 l1


namespace orientOn
open Go.ChangeShapes Go.WideShapes Go.ChangeAt
theorem spec_is (H : Type) : ∀ ds : List (DataW H), ds.length = 3 → Rows.orientOnSpec.fn H ds = { results := [.lit (.bool true)], args := ds }
  | [], h => by cases h
  | [_], h => by cases h
  | [_, _], h => by cases h
  | [_, _, _], _ => rfl
  | _ :: _ :: _ :: _ :: _, h => by simp at h

theorem args_of {args : Array Value} (h : args.size = 3) : ∃ v0 v1 v2, args = #[v0, v1, v2] := by
  refine ⟨args[0], args[1], args[2], ?_⟩
  apply Array.ext
  · simpa using h
  · intro i h1 h2
    match i, h1 with
    | 0, _ => rfl
    | 1, _ => rfl
    | 2, _ => rfl
    | m + 3, hm => exact absurd hm (by omega)

set_option maxRecDepth 100000 in
theorem over : Rows.orientOnRow.holds Try.pinned (OpenSpec.ofChange Rows.orientOnSpec) :=
  OpenClaim.holds_of_wide 7 Try.f7 rfl rfl rfl rfl rfl rfl rfl ⟨rfl, rfl, rfl, rfl, rfl⟩ rfl rfl rfl rfl rfl (by kernel_rfl) Try.func7 (by kernel_rfl)
    (of_decide_eq_true (by kernel_rfl)) (by unfold Func.isWrapper; first | (rw [if_pos (by decide +kernel)]; kernel_rfl) | (rw [if_neg (by decide +kernel)]; exact ⟨rfl, rfl⟩))
    (fun os started H enc _ => Kit.lifted (C := Try.checked) (tb := 4) (n := 3) (by kernel_rfl) (by kernel_rfl) (by kernel_rfl) Try.func7 rfl (by kernel_rfl) Try.underlying4 (by kernel_rfl)
      (by
        have e : Try.f7.params.toList = [34, 23, 23] := by rw [Try.params7]
        rw [e]
        intro t ht
        simp only [List.mem_cons, List.not_mem_nil, or_false] at ht
        rcases ht with rfl | rfl | rfl <;> exact ⟨by kernel_rfl, of_decide_eq_true (by kernel_rfl)⟩)
      spec_is
      (by
        intro W base args H enc ds p hn hval hA hfz hz
        obtain ⟨v0, v1, v2, rfl⟩ := args_of hn
        rw [Try.params7] at hval
        have k0 := hval 0 34 v0 rfl rfl
        have k1 := hval 1 23 v1 rfl rfl
        have k2 := hval 2 23 v2 rfl rfl
        clear hval
        obtain ⟨ax, ay, bx, by', rfl, _⟩ := Kit.agg4_of Try.underlying34 cSeg tSeg uSeg k0
        obtain ⟨px, py, rfl, _, _⟩ := Kit.agg2_of Try.underlying23 cPt tPt uInt k1
        obtain ⟨qx, qy, rfl, _, _⟩ := Kit.agg2_of Try.underlying23 cPt tPt uInt k2
        exact ons_all ax ay bx by' px py qx qy W)
      os started H enc
      (ChangeSpec.witness6 (enc := enc) (C := Try.checked) false ⟨#[], #[.agg #[.int .i64 0, .int .i64 0, .int .i64 0, .int .i64 0], .agg #[.int .i64 0, .int .i64 0], .agg #[.int .i64 0, .int .i64 0]], []⟩ 8 (by kernel_rfl) (by kernel_rfl) (by kernel_rfl) (by kernel_rfl)))
end orientOn

/-- THE STATEMENT. -/
theorem orientOn_holds : Rows.OrientOnSaid := orientOn.over
#print axioms orientOn_holds

end Go.Proofs.Ytcpjgcpclekjkaa
