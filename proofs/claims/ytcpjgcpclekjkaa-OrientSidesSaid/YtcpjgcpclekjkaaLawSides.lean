/-
  PROVED: OrientSides: on which side any point lies, whether it is on any line, or inside, and which of two comes ahead, as the document's answer has it. CONDITIONS: none: for every line and two points.
-/
import Derived.Test.YtcpjgcpclekjkaaOri3
import Derived.Test.YtcpjgcpclekjkaaKit
import Derived.Lib.Hide
namespace Go.Proofs.Ytcpjgcpclekjkaa
open Go.RowKit Go.Proofs.Ytcpjgcpclekjkaa.Tame
set_option maxHeartbeats 400000


theorem tPt : Try.prog.cellTypes Try.prog.depth 23 = some [3, 3] := by kernel_rfl
theorem cPt : Try.prog.cellsOf 23 = 2 := by kernel_rfl
theorem uInt : ∀ u, u ∈ ([3, 3] : List TypeId) → Try.prog.underlying u = some (.int .i64) := by
  intro u hu; simp at hu; subst hu; exact Try.underlying3

theorem tSeg : Try.prog.cellTypes Try.prog.depth 34 = some [3, 3, 3, 3] := by kernel_rfl
theorem cSeg : Try.prog.cellsOf 34 = 4 := by kernel_rfl
theorem uSeg : ∀ u, u ∈ ([3, 3, 3, 3] : List TypeId) → Try.prog.underlying u = some (.int .i64) := by
  intro u hu; simp at hu; subst hu; exact Try.underlying3


theorem cmp_sub (a b : Int) : cmpI (a - b) 0 = cmpI a b := by
  unfold cmpI
  split <;> split <;> (try split) <;> (try split) <;> first | rfl | omega
theorem dot_bd (ax ay bx by' cx cy : Int) : -2305843009213693952 ≤ dotI ax ay bx by' cx cy ∧ dotI ax ay bx by' cx cy ≤ 2305843009213693952 := by
  unfold dotI
  split
  · rename_i h
    simp only [Bool.and_eq_true] at h
    obtain ⟨⟨h1, h2⟩, h3⟩ := h
    have ⟨a1, a2⟩ := mayB_x h1
    have ⟨a3, a4⟩ := mayB_y h1
    have ⟨a5, a6⟩ := mayB_x h2
    have ⟨a7, a8⟩ := mayB_y h2
    have ⟨a9, a10⟩ := mayB_x h3
    have ⟨a11, a12⟩ := mayB_y h3
    have ⟨m1, m2⟩ := mul_bd (x := bx - ax) (y := cx - ax) (by omega) (by omega)
    have ⟨m3, m4⟩ := mul_bd (x := by' - ay) (y := cy - ay) (by omega) (by omega)
    omega
  · omega


set_option maxHeartbeats 2000000 in
theorem sides_off (ax ay bx by' px py qx qy : Int) (w : World) (u1 : onB ax ay bx by' px py = false) : Calls Try.prog 6 #[.agg #[.int .i64 ax, .int .i64 ay, .int .i64 bx, .int .i64 by'], .agg #[.int .i64 px, .int .i64 py], .agg #[.int .i64 qx, .int .i64 qy]] w fun e w' => e = .returned (.bool true) ∧ Below w.heap.size w w' := by
  have ho : orderI ax ay bx by' px py qx qy = 0 := by unfold orderI; rw [u1]; rfl
  have hi : insideB ax ay bx by' px py = false := by unfold insideB; rw [u1]; rfl
  go_enter Try.func6, Try.ntmps6
  go_upto_region 1 with (fail)
  refine plain_hid (fun W hW ops hops => ?_)
  have hb : Below w.heap.size w W := by rw [hW]; go_grown
  have hz : w.heap.size + 3 ≤ W.heap.size := by rw [hW]; simp
  have g0 : W.heap[w.heap.size]? = some (.cells #[.int .i64 ax, .int .i64 ay, .int .i64 bx, .int .i64 by'] 34) := by rw [hW]; exact heap_alloc_lt (heap_alloc_lt (heap_alloc_is (rfl)))
  have g1 : W.heap[w.heap.size + 1]? = some (.cells #[.int .i64 px, .int .i64 py] 23) := by rw [hW]; exact heap_alloc_lt (heap_alloc_is (by simp))
  have g2 : W.heap[w.heap.size + 1 + 1]? = some (.cells #[.int .i64 qx, .int .i64 qy] 23) := by rw [hW]; exact heap_alloc_is (by simp)
  clear hW
  clear hops
  have f0 : ∀ x : Later W [], x.w.cell? ⟨w.heap.size, 0, none⟩ = some (.int .i64 ax) := fun x => cell_of_block (Later.at0 g0 x) rfl
  have f1 : ∀ x : Later W [], x.w.cell? ⟨w.heap.size, 1, none⟩ = some (.int .i64 ay) := fun x => cell_of_block (Later.at0 g0 x) rfl
  have f2 : ∀ x : Later W [], x.w.cell? ⟨w.heap.size, 2, none⟩ = some (.int .i64 bx) := fun x => cell_of_block (Later.at0 g0 x) rfl
  have f3 : ∀ x : Later W [], x.w.cell? ⟨w.heap.size, 3, none⟩ = some (.int .i64 by') := fun x => cell_of_block (Later.at0 g0 x) rfl
  have f4 : ∀ x : Later W [], x.w.cell? ⟨w.heap.size + 1, 0, none⟩ = some (.int .i64 px) := fun x => cell_of_block (Later.at0 g1 x) rfl
  have f5 : ∀ x : Later W [], x.w.cell? ⟨w.heap.size + 1, 1, none⟩ = some (.int .i64 py) := fun x => cell_of_block (Later.at0 g1 x) rfl
  have f6 : ∀ x : Later W [], x.w.cell? ⟨w.heap.size + 1 + 1, 0, none⟩ = some (.int .i64 qx) := fun x => cell_of_block (Later.at0 g2 x) rfl
  have f7 : ∀ x : Later W [], x.w.cell? ⟨w.heap.size + 1 + 1, 1, none⟩ = some (.int .i64 qy) := fun x => cell_of_block (Later.at0 g2 x) rfl
  repeat (refine walkT_step (fun K hK => ?_); go_simp; first | (refine hK _ _ ?_; clear hK K) | (refine ⟨_, fun x => calm_ne2, ?_⟩; refine hK _ _ ?_; clear hK K) | (refine ⟨_, fun x => refon_any _ _ _ _ _ _ _, ?_⟩; refine hK _ _ ?_; clear hK K))
  refine walkT_nil ?_
  intro w1 hc
  replace g0 := hc.at0 g0
  replace g1 := hc.at0 g1
  replace g2 := hc.at0 g2
  replace hb := hb.trans (hc.below.mono hb.size)
  replace hz := Nat.le_trans hz hc.kept.size
  clear hc f0 f1 f2 f3 f4 f5 f6 f7 W
  go_upto_region 3 with (fail)
  refine plain_hid (fun W hW ops hops => ?_)
  subst hW
  have o1 : (ops[1]?).bind (fun x => x.dst) = some 13 := by rw [hops]; rfl
  clear hops
  have f8 : ∀ x : Later W [], x.w.cell? ⟨w.heap.size, 0, none⟩ = some (.int .i64 ax) := fun x => cell_of_block (Later.at0 g0 x) rfl
  have f9 : ∀ x : Later W [], x.w.cell? ⟨w.heap.size, 1, none⟩ = some (.int .i64 ay) := fun x => cell_of_block (Later.at0 g0 x) rfl
  have f10 : ∀ x : Later W [], x.w.cell? ⟨w.heap.size, 2, none⟩ = some (.int .i64 bx) := fun x => cell_of_block (Later.at0 g0 x) rfl
  have f11 : ∀ x : Later W [], x.w.cell? ⟨w.heap.size, 3, none⟩ = some (.int .i64 by') := fun x => cell_of_block (Later.at0 g0 x) rfl
  have f12 : ∀ x : Later W [], x.w.cell? ⟨w.heap.size + 1, 0, none⟩ = some (.int .i64 px) := fun x => cell_of_block (Later.at0 g1 x) rfl
  have f13 : ∀ x : Later W [], x.w.cell? ⟨w.heap.size + 1, 1, none⟩ = some (.int .i64 py) := fun x => cell_of_block (Later.at0 g1 x) rfl
  have f14 : ∀ x : Later W [], x.w.cell? ⟨w.heap.size + 1 + 1, 0, none⟩ = some (.int .i64 qx) := fun x => cell_of_block (Later.at0 g2 x) rfl
  have f15 : ∀ x : Later W [], x.w.cell? ⟨w.heap.size + 1 + 1, 1, none⟩ = some (.int .i64 qy) := fun x => cell_of_block (Later.at0 g2 x) rfl
  repeat (refine walkT_step (fun K hK => ?_); go_simp; first | (refine hK _ _ ?_; clear hK K) | (refine ⟨_, fun x => calm_ne2, ?_⟩; refine hK _ _ ?_; clear hK K) | (refine ⟨_, fun x => refon_any _ _ _ _ _ _ _, ?_⟩; refine hK _ _ ?_; clear hK K))
  refine walkT_nil ?_
  intro w1 hc
  replace g0 := hc.at0 g0
  replace g1 := hc.at0 g1
  replace g2 := hc.at0 g2
  replace hb := hb.trans (hc.below.mono hb.size)
  replace hz := Nat.le_trans hz hc.kept.size
  clear hc o1 f8 f9 f10 f11 f12 f13 f14 f15 W
  go_upto_region 5 with (fail)
  refine draws_hid (by kernel_rfl) (by kernel_rfl) (by kernel_rfl) (fun W hW ops hops => ?_)
  subst hW
  have o13 : (ops[13]?).bind (fun x => x.dst) = some 45 := by rw [hops]; rfl
  have o20 : (ops[20]?).bind (fun x => x.dst) = some 52 := by rw [hops]; rfl
  have o25 : (ops[25]?).bind (fun x => x.dst) = some 57 := by rw [hops]; rfl
  have o31 : (ops[31]?).bind (fun x => x.dst) = some 63 := by rw [hops]; rfl
  have o39 : (ops[39]?).bind (fun x => x.dst) = some 71 := by rw [hops]; rfl
  have o47 : (ops[47]?).bind (fun x => x.dst) = some 79 := by rw [hops]; rfl
  clear hops
  have f16 : ∀ x : Later W [], x.w.cell? ⟨w.heap.size, 0, none⟩ = some (.int .i64 ax) := fun x => cell_of_block (Later.at0 g0 x) rfl
  have f17 : ∀ x : Later W [], x.w.cell? ⟨w.heap.size, 1, none⟩ = some (.int .i64 ay) := fun x => cell_of_block (Later.at0 g0 x) rfl
  have f18 : ∀ x : Later W [], x.w.cell? ⟨w.heap.size, 2, none⟩ = some (.int .i64 bx) := fun x => cell_of_block (Later.at0 g0 x) rfl
  have f19 : ∀ x : Later W [], x.w.cell? ⟨w.heap.size, 3, none⟩ = some (.int .i64 by') := fun x => cell_of_block (Later.at0 g0 x) rfl
  have f20 : ∀ x : Later W [], x.w.cell? ⟨w.heap.size + 1, 0, none⟩ = some (.int .i64 px) := fun x => cell_of_block (Later.at0 g1 x) rfl
  have f21 : ∀ x : Later W [], x.w.cell? ⟨w.heap.size + 1, 1, none⟩ = some (.int .i64 py) := fun x => cell_of_block (Later.at0 g1 x) rfl
  have f22 : ∀ x : Later W [], x.w.cell? ⟨w.heap.size + 1 + 1, 0, none⟩ = some (.int .i64 qx) := fun x => cell_of_block (Later.at0 g2 x) rfl
  have f23 : ∀ x : Later W [], x.w.cell? ⟨w.heap.size + 1 + 1, 1, none⟩ = some (.int .i64 qy) := fun x => cell_of_block (Later.at0 g2 x) rfl
  repeat (refine walkT_step (fun K hK => ?_); go_simp; first | (refine hK _ _ ?_; clear hK K) | (refine ⟨_, fun x => calm_ne2, ?_⟩; refine hK _ _ ?_; clear hK K) | (refine ⟨_, fun x => side_any _ _ _ _ _ _ _, ?_⟩; refine hK _ _ ?_; clear hK K) | (refine ⟨_, fun x => refside_any _ _ _ _ _ _ _, ?_⟩; refine hK _ _ ?_; clear hK K) | (refine ⟨_, fun x => on_any _ _ _ _ _ _ _, ?_⟩; refine hK _ _ ?_; clear hK K) | (refine ⟨_, fun x => inside_any _ _ _ _ _ _ _, ?_⟩; refine hK _ _ ?_; clear hK K) | (refine ⟨_, fun x => order_any _ _ _ _ _ _ _ _ _, ?_⟩; refine hK _ _ ?_; clear hK K) | (refine ⟨_, fun x => awake8_any _, ?_⟩; refine hK _ _ ?_; clear hK K))
  refine walkT_nil ?_
  intro w2 hc
  replace g0 := hc.at0 g0
  replace g1 := hc.at0 g1
  replace g2 := hc.at0 g2
  replace hb := hb.trans (hc.below.mono hb.size)
  replace hz := Nat.le_trans hz hc.kept.size
  clear hc o13 o20 o25 o31 o39 o47 f16 f17 f18 f19 f20 f21 f22 f23 W
  go_wp2
  go_ret
  exact ⟨rfl, hb⟩


set_option maxHeartbeats 2000000 in
theorem sides_ff (ax ay bx by' px py qx qy : Int) (w : World) (u1 : onB ax ay bx by' px py = true) (u2 : onB ax ay bx by' qx qy = false) (c1 : (!decide (px = ax) || !decide (py = ay)) = false) : Calls Try.prog 6 #[.agg #[.int .i64 ax, .int .i64 ay, .int .i64 bx, .int .i64 by'], .agg #[.int .i64 px, .int .i64 py], .agg #[.int .i64 qx, .int .i64 qy]] w fun e w' => e = .returned (.bool true) ∧ Below w.heap.size w w' := by
  have ho : orderI ax ay bx by' px py qx qy = 0 := by unfold orderI; rw [u1, u2]; rfl
  have hi : insideB ax ay bx by' px py = false := by unfold insideB; rw [u1, c1]; rfl
  go_enter Try.func6, Try.ntmps6
  go_upto_region 1 with (fail)
  refine plain_hid (fun W hW ops hops => ?_)
  have hb : Below w.heap.size w W := by rw [hW]; go_grown
  have hz : w.heap.size + 3 ≤ W.heap.size := by rw [hW]; simp
  have g0 : W.heap[w.heap.size]? = some (.cells #[.int .i64 ax, .int .i64 ay, .int .i64 bx, .int .i64 by'] 34) := by rw [hW]; exact heap_alloc_lt (heap_alloc_lt (heap_alloc_is (rfl)))
  have g1 : W.heap[w.heap.size + 1]? = some (.cells #[.int .i64 px, .int .i64 py] 23) := by rw [hW]; exact heap_alloc_lt (heap_alloc_is (by simp))
  have g2 : W.heap[w.heap.size + 1 + 1]? = some (.cells #[.int .i64 qx, .int .i64 qy] 23) := by rw [hW]; exact heap_alloc_is (by simp)
  clear hW
  clear hops
  have f0 : ∀ x : Later W [], x.w.cell? ⟨w.heap.size, 0, none⟩ = some (.int .i64 ax) := fun x => cell_of_block (Later.at0 g0 x) rfl
  have f1 : ∀ x : Later W [], x.w.cell? ⟨w.heap.size, 1, none⟩ = some (.int .i64 ay) := fun x => cell_of_block (Later.at0 g0 x) rfl
  have f2 : ∀ x : Later W [], x.w.cell? ⟨w.heap.size, 2, none⟩ = some (.int .i64 bx) := fun x => cell_of_block (Later.at0 g0 x) rfl
  have f3 : ∀ x : Later W [], x.w.cell? ⟨w.heap.size, 3, none⟩ = some (.int .i64 by') := fun x => cell_of_block (Later.at0 g0 x) rfl
  have f4 : ∀ x : Later W [], x.w.cell? ⟨w.heap.size + 1, 0, none⟩ = some (.int .i64 px) := fun x => cell_of_block (Later.at0 g1 x) rfl
  have f5 : ∀ x : Later W [], x.w.cell? ⟨w.heap.size + 1, 1, none⟩ = some (.int .i64 py) := fun x => cell_of_block (Later.at0 g1 x) rfl
  have f6 : ∀ x : Later W [], x.w.cell? ⟨w.heap.size + 1 + 1, 0, none⟩ = some (.int .i64 qx) := fun x => cell_of_block (Later.at0 g2 x) rfl
  have f7 : ∀ x : Later W [], x.w.cell? ⟨w.heap.size + 1 + 1, 1, none⟩ = some (.int .i64 qy) := fun x => cell_of_block (Later.at0 g2 x) rfl
  repeat (refine walkT_step (fun K hK => ?_); go_simp; first | (refine hK _ _ ?_; clear hK K) | (refine ⟨_, fun x => calm_ne2, ?_⟩; refine hK _ _ ?_; clear hK K) | (refine ⟨_, fun x => refon_any _ _ _ _ _ _ _, ?_⟩; refine hK _ _ ?_; clear hK K))
  refine walkT_nil ?_
  intro w1 hc
  replace g0 := hc.at0 g0
  replace g1 := hc.at0 g1
  replace g2 := hc.at0 g2
  replace hb := hb.trans (hc.below.mono hb.size)
  replace hz := Nat.le_trans hz hc.kept.size
  clear hc f0 f1 f2 f3 f4 f5 f6 f7 W
  go_upto_region 3 with (fail)
  refine plain_hid (fun W hW ops hops => ?_)
  subst hW
  have o1 : (ops[1]?).bind (fun x => x.dst) = some 13 := by rw [hops]; rfl
  clear hops
  have f8 : ∀ x : Later W [], x.w.cell? ⟨w.heap.size, 0, none⟩ = some (.int .i64 ax) := fun x => cell_of_block (Later.at0 g0 x) rfl
  have f9 : ∀ x : Later W [], x.w.cell? ⟨w.heap.size, 1, none⟩ = some (.int .i64 ay) := fun x => cell_of_block (Later.at0 g0 x) rfl
  have f10 : ∀ x : Later W [], x.w.cell? ⟨w.heap.size, 2, none⟩ = some (.int .i64 bx) := fun x => cell_of_block (Later.at0 g0 x) rfl
  have f11 : ∀ x : Later W [], x.w.cell? ⟨w.heap.size, 3, none⟩ = some (.int .i64 by') := fun x => cell_of_block (Later.at0 g0 x) rfl
  have f12 : ∀ x : Later W [], x.w.cell? ⟨w.heap.size + 1, 0, none⟩ = some (.int .i64 px) := fun x => cell_of_block (Later.at0 g1 x) rfl
  have f13 : ∀ x : Later W [], x.w.cell? ⟨w.heap.size + 1, 1, none⟩ = some (.int .i64 py) := fun x => cell_of_block (Later.at0 g1 x) rfl
  have f14 : ∀ x : Later W [], x.w.cell? ⟨w.heap.size + 1 + 1, 0, none⟩ = some (.int .i64 qx) := fun x => cell_of_block (Later.at0 g2 x) rfl
  have f15 : ∀ x : Later W [], x.w.cell? ⟨w.heap.size + 1 + 1, 1, none⟩ = some (.int .i64 qy) := fun x => cell_of_block (Later.at0 g2 x) rfl
  repeat (refine walkT_step (fun K hK => ?_); go_simp; first | (refine hK _ _ ?_; clear hK K) | (refine ⟨_, fun x => calm_ne2, ?_⟩; refine hK _ _ ?_; clear hK K) | (refine ⟨_, fun x => refon_any _ _ _ _ _ _ _, ?_⟩; refine hK _ _ ?_; clear hK K))
  refine walkT_nil ?_
  intro w1 hc
  replace g0 := hc.at0 g0
  replace g1 := hc.at0 g1
  replace g2 := hc.at0 g2
  replace hb := hb.trans (hc.below.mono hb.size)
  replace hz := Nat.le_trans hz hc.kept.size
  clear hc o1 f8 f9 f10 f11 f12 f13 f14 f15 W
  go_upto_region 5 with (fail)
  refine draws_hid (by kernel_rfl) (by kernel_rfl) (by kernel_rfl) (fun W hW ops hops => ?_)
  subst hW
  have o13 : (ops[13]?).bind (fun x => x.dst) = some 45 := by rw [hops]; rfl
  have o20 : (ops[20]?).bind (fun x => x.dst) = some 52 := by rw [hops]; rfl
  have o25 : (ops[25]?).bind (fun x => x.dst) = some 57 := by rw [hops]; rfl
  have o31 : (ops[31]?).bind (fun x => x.dst) = some 63 := by rw [hops]; rfl
  have o39 : (ops[39]?).bind (fun x => x.dst) = some 71 := by rw [hops]; rfl
  have o47 : (ops[47]?).bind (fun x => x.dst) = some 79 := by rw [hops]; rfl
  clear hops
  have f16 : ∀ x : Later W [], x.w.cell? ⟨w.heap.size, 0, none⟩ = some (.int .i64 ax) := fun x => cell_of_block (Later.at0 g0 x) rfl
  have f17 : ∀ x : Later W [], x.w.cell? ⟨w.heap.size, 1, none⟩ = some (.int .i64 ay) := fun x => cell_of_block (Later.at0 g0 x) rfl
  have f18 : ∀ x : Later W [], x.w.cell? ⟨w.heap.size, 2, none⟩ = some (.int .i64 bx) := fun x => cell_of_block (Later.at0 g0 x) rfl
  have f19 : ∀ x : Later W [], x.w.cell? ⟨w.heap.size, 3, none⟩ = some (.int .i64 by') := fun x => cell_of_block (Later.at0 g0 x) rfl
  have f20 : ∀ x : Later W [], x.w.cell? ⟨w.heap.size + 1, 0, none⟩ = some (.int .i64 px) := fun x => cell_of_block (Later.at0 g1 x) rfl
  have f21 : ∀ x : Later W [], x.w.cell? ⟨w.heap.size + 1, 1, none⟩ = some (.int .i64 py) := fun x => cell_of_block (Later.at0 g1 x) rfl
  have f22 : ∀ x : Later W [], x.w.cell? ⟨w.heap.size + 1 + 1, 0, none⟩ = some (.int .i64 qx) := fun x => cell_of_block (Later.at0 g2 x) rfl
  have f23 : ∀ x : Later W [], x.w.cell? ⟨w.heap.size + 1 + 1, 1, none⟩ = some (.int .i64 qy) := fun x => cell_of_block (Later.at0 g2 x) rfl
  repeat (refine walkT_step (fun K hK => ?_); go_simp; first | (refine hK _ _ ?_; clear hK K) | (refine ⟨_, fun x => calm_ne2, ?_⟩; refine hK _ _ ?_; clear hK K) | (refine ⟨_, fun x => side_any _ _ _ _ _ _ _, ?_⟩; refine hK _ _ ?_; clear hK K) | (refine ⟨_, fun x => refside_any _ _ _ _ _ _ _, ?_⟩; refine hK _ _ ?_; clear hK K) | (refine ⟨_, fun x => on_any _ _ _ _ _ _ _, ?_⟩; refine hK _ _ ?_; clear hK K) | (refine ⟨_, fun x => inside_any _ _ _ _ _ _ _, ?_⟩; refine hK _ _ ?_; clear hK K) | (refine ⟨_, fun x => order_any _ _ _ _ _ _ _ _ _, ?_⟩; refine hK _ _ ?_; clear hK K) | (refine ⟨_, fun x => awake8_any _, ?_⟩; refine hK _ _ ?_; clear hK K))
  refine walkT_nil ?_
  intro w2 hc
  replace g0 := hc.at0 g0
  replace g1 := hc.at0 g1
  replace g2 := hc.at0 g2
  replace hb := hb.trans (hc.below.mono hb.size)
  replace hz := Nat.le_trans hz hc.kept.size
  clear hc o13 o20 o25 o31 o39 o47 f16 f17 f18 f19 f20 f21 f22 f23 W
  go_wp2
  go_ret
  exact ⟨rfl, hb⟩


set_option maxHeartbeats 2000000 in
theorem sides_ft (ax ay bx by' px py qx qy : Int) (w : World) (u1 : onB ax ay bx by' px py = true) (u2 : onB ax ay bx by' qx qy = false) (c1 : (!decide (px = ax) || !decide (py = ay)) = true) : Calls Try.prog 6 #[.agg #[.int .i64 ax, .int .i64 ay, .int .i64 bx, .int .i64 by'], .agg #[.int .i64 px, .int .i64 py], .agg #[.int .i64 qx, .int .i64 qy]] w fun e w' => e = .returned (.bool true) ∧ Below w.heap.size w w' := by
  have ho : orderI ax ay bx by' px py qx qy = 0 := by unfold orderI; rw [u1, u2]; rfl
  have hi : insideB ax ay bx by' px py = (!decide (px = bx) || !decide (py = by')) := by unfold insideB; rw [u1, c1]; rfl
  go_enter Try.func6, Try.ntmps6
  go_upto_region 1 with (fail)
  refine plain_hid (fun W hW ops hops => ?_)
  have hb : Below w.heap.size w W := by rw [hW]; go_grown
  have hz : w.heap.size + 3 ≤ W.heap.size := by rw [hW]; simp
  have g0 : W.heap[w.heap.size]? = some (.cells #[.int .i64 ax, .int .i64 ay, .int .i64 bx, .int .i64 by'] 34) := by rw [hW]; exact heap_alloc_lt (heap_alloc_lt (heap_alloc_is (rfl)))
  have g1 : W.heap[w.heap.size + 1]? = some (.cells #[.int .i64 px, .int .i64 py] 23) := by rw [hW]; exact heap_alloc_lt (heap_alloc_is (by simp))
  have g2 : W.heap[w.heap.size + 1 + 1]? = some (.cells #[.int .i64 qx, .int .i64 qy] 23) := by rw [hW]; exact heap_alloc_is (by simp)
  clear hW
  clear hops
  have f0 : ∀ x : Later W [], x.w.cell? ⟨w.heap.size, 0, none⟩ = some (.int .i64 ax) := fun x => cell_of_block (Later.at0 g0 x) rfl
  have f1 : ∀ x : Later W [], x.w.cell? ⟨w.heap.size, 1, none⟩ = some (.int .i64 ay) := fun x => cell_of_block (Later.at0 g0 x) rfl
  have f2 : ∀ x : Later W [], x.w.cell? ⟨w.heap.size, 2, none⟩ = some (.int .i64 bx) := fun x => cell_of_block (Later.at0 g0 x) rfl
  have f3 : ∀ x : Later W [], x.w.cell? ⟨w.heap.size, 3, none⟩ = some (.int .i64 by') := fun x => cell_of_block (Later.at0 g0 x) rfl
  have f4 : ∀ x : Later W [], x.w.cell? ⟨w.heap.size + 1, 0, none⟩ = some (.int .i64 px) := fun x => cell_of_block (Later.at0 g1 x) rfl
  have f5 : ∀ x : Later W [], x.w.cell? ⟨w.heap.size + 1, 1, none⟩ = some (.int .i64 py) := fun x => cell_of_block (Later.at0 g1 x) rfl
  have f6 : ∀ x : Later W [], x.w.cell? ⟨w.heap.size + 1 + 1, 0, none⟩ = some (.int .i64 qx) := fun x => cell_of_block (Later.at0 g2 x) rfl
  have f7 : ∀ x : Later W [], x.w.cell? ⟨w.heap.size + 1 + 1, 1, none⟩ = some (.int .i64 qy) := fun x => cell_of_block (Later.at0 g2 x) rfl
  repeat (refine walkT_step (fun K hK => ?_); go_simp; first | (refine hK _ _ ?_; clear hK K) | (refine ⟨_, fun x => calm_ne2, ?_⟩; refine hK _ _ ?_; clear hK K) | (refine ⟨_, fun x => refon_any _ _ _ _ _ _ _, ?_⟩; refine hK _ _ ?_; clear hK K))
  refine walkT_nil ?_
  intro w1 hc
  replace g0 := hc.at0 g0
  replace g1 := hc.at0 g1
  replace g2 := hc.at0 g2
  replace hb := hb.trans (hc.below.mono hb.size)
  replace hz := Nat.le_trans hz hc.kept.size
  clear hc f0 f1 f2 f3 f4 f5 f6 f7 W
  go_upto_region 3 with (fail)
  refine plain_hid (fun W hW ops hops => ?_)
  subst hW
  have o1 : (ops[1]?).bind (fun x => x.dst) = some 13 := by rw [hops]; rfl
  clear hops
  have f8 : ∀ x : Later W [], x.w.cell? ⟨w.heap.size, 0, none⟩ = some (.int .i64 ax) := fun x => cell_of_block (Later.at0 g0 x) rfl
  have f9 : ∀ x : Later W [], x.w.cell? ⟨w.heap.size, 1, none⟩ = some (.int .i64 ay) := fun x => cell_of_block (Later.at0 g0 x) rfl
  have f10 : ∀ x : Later W [], x.w.cell? ⟨w.heap.size, 2, none⟩ = some (.int .i64 bx) := fun x => cell_of_block (Later.at0 g0 x) rfl
  have f11 : ∀ x : Later W [], x.w.cell? ⟨w.heap.size, 3, none⟩ = some (.int .i64 by') := fun x => cell_of_block (Later.at0 g0 x) rfl
  have f12 : ∀ x : Later W [], x.w.cell? ⟨w.heap.size + 1, 0, none⟩ = some (.int .i64 px) := fun x => cell_of_block (Later.at0 g1 x) rfl
  have f13 : ∀ x : Later W [], x.w.cell? ⟨w.heap.size + 1, 1, none⟩ = some (.int .i64 py) := fun x => cell_of_block (Later.at0 g1 x) rfl
  have f14 : ∀ x : Later W [], x.w.cell? ⟨w.heap.size + 1 + 1, 0, none⟩ = some (.int .i64 qx) := fun x => cell_of_block (Later.at0 g2 x) rfl
  have f15 : ∀ x : Later W [], x.w.cell? ⟨w.heap.size + 1 + 1, 1, none⟩ = some (.int .i64 qy) := fun x => cell_of_block (Later.at0 g2 x) rfl
  repeat (refine walkT_step (fun K hK => ?_); go_simp; first | (refine hK _ _ ?_; clear hK K) | (refine ⟨_, fun x => calm_ne2, ?_⟩; refine hK _ _ ?_; clear hK K) | (refine ⟨_, fun x => refon_any _ _ _ _ _ _ _, ?_⟩; refine hK _ _ ?_; clear hK K))
  refine walkT_nil ?_
  intro w1 hc
  replace g0 := hc.at0 g0
  replace g1 := hc.at0 g1
  replace g2 := hc.at0 g2
  replace hb := hb.trans (hc.below.mono hb.size)
  replace hz := Nat.le_trans hz hc.kept.size
  clear hc o1 f8 f9 f10 f11 f12 f13 f14 f15 W
  go_upto_region 5 with (fail)
  refine draws_hid (by kernel_rfl) (by kernel_rfl) (by kernel_rfl) (fun W hW ops hops => ?_)
  subst hW
  have o13 : (ops[13]?).bind (fun x => x.dst) = some 45 := by rw [hops]; rfl
  have o20 : (ops[20]?).bind (fun x => x.dst) = some 52 := by rw [hops]; rfl
  have o25 : (ops[25]?).bind (fun x => x.dst) = some 57 := by rw [hops]; rfl
  have o31 : (ops[31]?).bind (fun x => x.dst) = some 63 := by rw [hops]; rfl
  have o39 : (ops[39]?).bind (fun x => x.dst) = some 71 := by rw [hops]; rfl
  have o47 : (ops[47]?).bind (fun x => x.dst) = some 79 := by rw [hops]; rfl
  clear hops
  have f16 : ∀ x : Later W [], x.w.cell? ⟨w.heap.size, 0, none⟩ = some (.int .i64 ax) := fun x => cell_of_block (Later.at0 g0 x) rfl
  have f17 : ∀ x : Later W [], x.w.cell? ⟨w.heap.size, 1, none⟩ = some (.int .i64 ay) := fun x => cell_of_block (Later.at0 g0 x) rfl
  have f18 : ∀ x : Later W [], x.w.cell? ⟨w.heap.size, 2, none⟩ = some (.int .i64 bx) := fun x => cell_of_block (Later.at0 g0 x) rfl
  have f19 : ∀ x : Later W [], x.w.cell? ⟨w.heap.size, 3, none⟩ = some (.int .i64 by') := fun x => cell_of_block (Later.at0 g0 x) rfl
  have f20 : ∀ x : Later W [], x.w.cell? ⟨w.heap.size + 1, 0, none⟩ = some (.int .i64 px) := fun x => cell_of_block (Later.at0 g1 x) rfl
  have f21 : ∀ x : Later W [], x.w.cell? ⟨w.heap.size + 1, 1, none⟩ = some (.int .i64 py) := fun x => cell_of_block (Later.at0 g1 x) rfl
  have f22 : ∀ x : Later W [], x.w.cell? ⟨w.heap.size + 1 + 1, 0, none⟩ = some (.int .i64 qx) := fun x => cell_of_block (Later.at0 g2 x) rfl
  have f23 : ∀ x : Later W [], x.w.cell? ⟨w.heap.size + 1 + 1, 1, none⟩ = some (.int .i64 qy) := fun x => cell_of_block (Later.at0 g2 x) rfl
  repeat (refine walkT_step (fun K hK => ?_); go_simp; first | (refine hK _ _ ?_; clear hK K) | (refine ⟨_, fun x => calm_ne2, ?_⟩; refine hK _ _ ?_; clear hK K) | (refine ⟨_, fun x => side_any _ _ _ _ _ _ _, ?_⟩; refine hK _ _ ?_; clear hK K) | (refine ⟨_, fun x => refside_any _ _ _ _ _ _ _, ?_⟩; refine hK _ _ ?_; clear hK K) | (refine ⟨_, fun x => on_any _ _ _ _ _ _ _, ?_⟩; refine hK _ _ ?_; clear hK K) | (refine ⟨_, fun x => inside_any _ _ _ _ _ _ _, ?_⟩; refine hK _ _ ?_; clear hK K) | (refine ⟨_, fun x => order_any _ _ _ _ _ _ _ _ _, ?_⟩; refine hK _ _ ?_; clear hK K) | (refine ⟨_, fun x => awake8_any _, ?_⟩; refine hK _ _ ?_; clear hK K))
  refine walkT_nil ?_
  intro w2 hc
  replace g0 := hc.at0 g0
  replace g1 := hc.at0 g1
  replace g2 := hc.at0 g2
  replace hb := hb.trans (hc.below.mono hb.size)
  replace hz := Nat.le_trans hz hc.kept.size
  clear hc o13 o20 o25 o31 o39 o47 f16 f17 f18 f19 f20 f21 f22 f23 W
  go_wp2
  go_ret
  exact ⟨rfl, hb⟩


set_option maxHeartbeats 2000000 in
theorem sides_tf (ax ay bx by' px py qx qy : Int) (w : World) (u1 : onB ax ay bx by' px py = true) (u2 : onB ax ay bx by' qx qy = true) (c1 : (!decide (px = ax) || !decide (py = ay)) = false) : Calls Try.prog 6 #[.agg #[.int .i64 ax, .int .i64 ay, .int .i64 bx, .int .i64 by'], .agg #[.int .i64 px, .int .i64 py], .agg #[.int .i64 qx, .int .i64 qy]] w fun e w' => e = .returned (.bool true) ∧ Below w.heap.size w w' := by
  have ho : orderI ax ay bx by' px py qx qy = cmpI (dotI ax ay bx by' px py) (dotI ax ay bx by' qx qy) := by unfold orderI; rw [u1, u2]; rfl
  have hi : insideB ax ay bx by' px py = false := by unfold insideB; rw [u1, c1]; rfl
  have hw : IntKind.i64.wrap (dotI ax ay bx by' px py - dotI ax ay bx by' qx qy) = dotI ax ay bx by' px py - dotI ax ay bx by' qx qy := IntWalk.i64_in _ (by have := dot_bd ax ay bx by' px py; have := dot_bd ax ay bx by' qx qy; omega)
  have hc := cmp_sub (dotI ax ay bx by' px py) (dotI ax ay bx by' qx qy)
  go_enter Try.func6, Try.ntmps6
  go_upto_region 1 with (fail)
  refine plain_hid (fun W hW ops hops => ?_)
  have hb : Below w.heap.size w W := by rw [hW]; go_grown
  have hz : w.heap.size + 3 ≤ W.heap.size := by rw [hW]; simp
  have g0 : W.heap[w.heap.size]? = some (.cells #[.int .i64 ax, .int .i64 ay, .int .i64 bx, .int .i64 by'] 34) := by rw [hW]; exact heap_alloc_lt (heap_alloc_lt (heap_alloc_is (rfl)))
  have g1 : W.heap[w.heap.size + 1]? = some (.cells #[.int .i64 px, .int .i64 py] 23) := by rw [hW]; exact heap_alloc_lt (heap_alloc_is (by simp))
  have g2 : W.heap[w.heap.size + 1 + 1]? = some (.cells #[.int .i64 qx, .int .i64 qy] 23) := by rw [hW]; exact heap_alloc_is (by simp)
  clear hW
  clear hops
  have f0 : ∀ x : Later W [], x.w.cell? ⟨w.heap.size, 0, none⟩ = some (.int .i64 ax) := fun x => cell_of_block (Later.at0 g0 x) rfl
  have f1 : ∀ x : Later W [], x.w.cell? ⟨w.heap.size, 1, none⟩ = some (.int .i64 ay) := fun x => cell_of_block (Later.at0 g0 x) rfl
  have f2 : ∀ x : Later W [], x.w.cell? ⟨w.heap.size, 2, none⟩ = some (.int .i64 bx) := fun x => cell_of_block (Later.at0 g0 x) rfl
  have f3 : ∀ x : Later W [], x.w.cell? ⟨w.heap.size, 3, none⟩ = some (.int .i64 by') := fun x => cell_of_block (Later.at0 g0 x) rfl
  have f4 : ∀ x : Later W [], x.w.cell? ⟨w.heap.size + 1, 0, none⟩ = some (.int .i64 px) := fun x => cell_of_block (Later.at0 g1 x) rfl
  have f5 : ∀ x : Later W [], x.w.cell? ⟨w.heap.size + 1, 1, none⟩ = some (.int .i64 py) := fun x => cell_of_block (Later.at0 g1 x) rfl
  have f6 : ∀ x : Later W [], x.w.cell? ⟨w.heap.size + 1 + 1, 0, none⟩ = some (.int .i64 qx) := fun x => cell_of_block (Later.at0 g2 x) rfl
  have f7 : ∀ x : Later W [], x.w.cell? ⟨w.heap.size + 1 + 1, 1, none⟩ = some (.int .i64 qy) := fun x => cell_of_block (Later.at0 g2 x) rfl
  repeat (refine walkT_step (fun K hK => ?_); go_simp; first | (refine hK _ _ ?_; clear hK K) | (refine ⟨_, fun x => calm_ne2, ?_⟩; refine hK _ _ ?_; clear hK K) | (refine ⟨_, fun x => refon_any _ _ _ _ _ _ _, ?_⟩; refine hK _ _ ?_; clear hK K))
  refine walkT_nil ?_
  intro w1 hc
  replace g0 := hc.at0 g0
  replace g1 := hc.at0 g1
  replace g2 := hc.at0 g2
  replace hb := hb.trans (hc.below.mono hb.size)
  replace hz := Nat.le_trans hz hc.kept.size
  clear hc f0 f1 f2 f3 f4 f5 f6 f7 W
  go_upto_region 3 with (fail)
  refine plain_hid (fun W hW ops hops => ?_)
  subst hW
  have o1 : (ops[1]?).bind (fun x => x.dst) = some 13 := by rw [hops]; rfl
  clear hops
  have f8 : ∀ x : Later W [], x.w.cell? ⟨w.heap.size, 0, none⟩ = some (.int .i64 ax) := fun x => cell_of_block (Later.at0 g0 x) rfl
  have f9 : ∀ x : Later W [], x.w.cell? ⟨w.heap.size, 1, none⟩ = some (.int .i64 ay) := fun x => cell_of_block (Later.at0 g0 x) rfl
  have f10 : ∀ x : Later W [], x.w.cell? ⟨w.heap.size, 2, none⟩ = some (.int .i64 bx) := fun x => cell_of_block (Later.at0 g0 x) rfl
  have f11 : ∀ x : Later W [], x.w.cell? ⟨w.heap.size, 3, none⟩ = some (.int .i64 by') := fun x => cell_of_block (Later.at0 g0 x) rfl
  have f12 : ∀ x : Later W [], x.w.cell? ⟨w.heap.size + 1, 0, none⟩ = some (.int .i64 px) := fun x => cell_of_block (Later.at0 g1 x) rfl
  have f13 : ∀ x : Later W [], x.w.cell? ⟨w.heap.size + 1, 1, none⟩ = some (.int .i64 py) := fun x => cell_of_block (Later.at0 g1 x) rfl
  have f14 : ∀ x : Later W [], x.w.cell? ⟨w.heap.size + 1 + 1, 0, none⟩ = some (.int .i64 qx) := fun x => cell_of_block (Later.at0 g2 x) rfl
  have f15 : ∀ x : Later W [], x.w.cell? ⟨w.heap.size + 1 + 1, 1, none⟩ = some (.int .i64 qy) := fun x => cell_of_block (Later.at0 g2 x) rfl
  repeat (refine walkT_step (fun K hK => ?_); go_simp; first | (refine hK _ _ ?_; clear hK K) | (refine ⟨_, fun x => calm_ne2, ?_⟩; refine hK _ _ ?_; clear hK K) | (refine ⟨_, fun x => refon_any _ _ _ _ _ _ _, ?_⟩; refine hK _ _ ?_; clear hK K))
  refine walkT_nil ?_
  intro w1 hc
  replace g0 := hc.at0 g0
  replace g1 := hc.at0 g1
  replace g2 := hc.at0 g2
  replace hb := hb.trans (hc.below.mono hb.size)
  replace hz := Nat.le_trans hz hc.kept.size
  clear hc o1 f8 f9 f10 f11 f12 f13 f14 f15 W
  go_upto_region 4 with (fail)
  refine draws_hid (by kernel_rfl) (by kernel_rfl) (by kernel_rfl) (fun W hW ops hops => ?_)
  subst hW
  clear hops
  have f16 : ∀ x : Later W [], x.w.cell? ⟨w.heap.size, 0, none⟩ = some (.int .i64 ax) := fun x => cell_of_block (Later.at0 g0 x) rfl
  have f17 : ∀ x : Later W [], x.w.cell? ⟨w.heap.size, 1, none⟩ = some (.int .i64 ay) := fun x => cell_of_block (Later.at0 g0 x) rfl
  have f18 : ∀ x : Later W [], x.w.cell? ⟨w.heap.size, 2, none⟩ = some (.int .i64 bx) := fun x => cell_of_block (Later.at0 g0 x) rfl
  have f19 : ∀ x : Later W [], x.w.cell? ⟨w.heap.size, 3, none⟩ = some (.int .i64 by') := fun x => cell_of_block (Later.at0 g0 x) rfl
  have f20 : ∀ x : Later W [], x.w.cell? ⟨w.heap.size + 1, 0, none⟩ = some (.int .i64 px) := fun x => cell_of_block (Later.at0 g1 x) rfl
  have f21 : ∀ x : Later W [], x.w.cell? ⟨w.heap.size + 1, 1, none⟩ = some (.int .i64 py) := fun x => cell_of_block (Later.at0 g1 x) rfl
  have f22 : ∀ x : Later W [], x.w.cell? ⟨w.heap.size + 1 + 1, 0, none⟩ = some (.int .i64 qx) := fun x => cell_of_block (Later.at0 g2 x) rfl
  have f23 : ∀ x : Later W [], x.w.cell? ⟨w.heap.size + 1 + 1, 1, none⟩ = some (.int .i64 qy) := fun x => cell_of_block (Later.at0 g2 x) rfl
  repeat (refine walkT_step (fun K hK => ?_); go_simp; first | (refine hK _ _ ?_; clear hK K) | (refine ⟨_, fun x => calm_ne2, ?_⟩; refine hK _ _ ?_; clear hK K) | (refine ⟨_, fun x => refdot_any _ _ _ _ _ _ _, ?_⟩; refine hK _ _ ?_; clear hK K) | (refine ⟨_, fun x => sign_any _ _, ?_⟩; refine hK _ _ ?_; clear hK K))
  refine walkT_nil ?_
  intro w1 hc
  replace g0 := hc.at0 g0
  replace g1 := hc.at0 g1
  replace g2 := hc.at0 g2
  replace hb := hb.trans (hc.below.mono hb.size)
  replace hz := Nat.le_trans hz hc.kept.size
  clear hc f16 f17 f18 f19 f20 f21 f22 f23 W
  go_upto_region 5 with (fail)
  refine draws_hid (by kernel_rfl) (by kernel_rfl) (by kernel_rfl) (fun W hW ops hops => ?_)
  subst hW
  have o13 : (ops[13]?).bind (fun x => x.dst) = some 45 := by rw [hops]; rfl
  have o20 : (ops[20]?).bind (fun x => x.dst) = some 52 := by rw [hops]; rfl
  have o25 : (ops[25]?).bind (fun x => x.dst) = some 57 := by rw [hops]; rfl
  have o31 : (ops[31]?).bind (fun x => x.dst) = some 63 := by rw [hops]; rfl
  have o39 : (ops[39]?).bind (fun x => x.dst) = some 71 := by rw [hops]; rfl
  have o47 : (ops[47]?).bind (fun x => x.dst) = some 79 := by rw [hops]; rfl
  clear hops
  have f24 : ∀ x : Later W [], x.w.cell? ⟨w.heap.size, 0, none⟩ = some (.int .i64 ax) := fun x => cell_of_block (Later.at0 g0 x) rfl
  have f25 : ∀ x : Later W [], x.w.cell? ⟨w.heap.size, 1, none⟩ = some (.int .i64 ay) := fun x => cell_of_block (Later.at0 g0 x) rfl
  have f26 : ∀ x : Later W [], x.w.cell? ⟨w.heap.size, 2, none⟩ = some (.int .i64 bx) := fun x => cell_of_block (Later.at0 g0 x) rfl
  have f27 : ∀ x : Later W [], x.w.cell? ⟨w.heap.size, 3, none⟩ = some (.int .i64 by') := fun x => cell_of_block (Later.at0 g0 x) rfl
  have f28 : ∀ x : Later W [], x.w.cell? ⟨w.heap.size + 1, 0, none⟩ = some (.int .i64 px) := fun x => cell_of_block (Later.at0 g1 x) rfl
  have f29 : ∀ x : Later W [], x.w.cell? ⟨w.heap.size + 1, 1, none⟩ = some (.int .i64 py) := fun x => cell_of_block (Later.at0 g1 x) rfl
  have f30 : ∀ x : Later W [], x.w.cell? ⟨w.heap.size + 1 + 1, 0, none⟩ = some (.int .i64 qx) := fun x => cell_of_block (Later.at0 g2 x) rfl
  have f31 : ∀ x : Later W [], x.w.cell? ⟨w.heap.size + 1 + 1, 1, none⟩ = some (.int .i64 qy) := fun x => cell_of_block (Later.at0 g2 x) rfl
  repeat (refine walkT_step (fun K hK => ?_); go_simp; first | (refine hK _ _ ?_; clear hK K) | (refine ⟨_, fun x => calm_ne2, ?_⟩; refine hK _ _ ?_; clear hK K) | (refine ⟨_, fun x => side_any _ _ _ _ _ _ _, ?_⟩; refine hK _ _ ?_; clear hK K) | (refine ⟨_, fun x => refside_any _ _ _ _ _ _ _, ?_⟩; refine hK _ _ ?_; clear hK K) | (refine ⟨_, fun x => on_any _ _ _ _ _ _ _, ?_⟩; refine hK _ _ ?_; clear hK K) | (refine ⟨_, fun x => inside_any _ _ _ _ _ _ _, ?_⟩; refine hK _ _ ?_; clear hK K) | (refine ⟨_, fun x => order_any _ _ _ _ _ _ _ _ _, ?_⟩; refine hK _ _ ?_; clear hK K) | (refine ⟨_, fun x => awake8_any _, ?_⟩; refine hK _ _ ?_; clear hK K))
  refine walkT_nil ?_
  intro w2 hc
  replace g0 := hc.at0 g0
  replace g1 := hc.at0 g1
  replace g2 := hc.at0 g2
  replace hb := hb.trans (hc.below.mono hb.size)
  replace hz := Nat.le_trans hz hc.kept.size
  clear hc o13 o20 o25 o31 o39 o47 f24 f25 f26 f27 f28 f29 f30 f31 W
  go_wp2
  go_ret
  exact ⟨rfl, hb⟩


set_option maxHeartbeats 2000000 in
theorem sides_tt (ax ay bx by' px py qx qy : Int) (w : World) (u1 : onB ax ay bx by' px py = true) (u2 : onB ax ay bx by' qx qy = true) (c1 : (!decide (px = ax) || !decide (py = ay)) = true) : Calls Try.prog 6 #[.agg #[.int .i64 ax, .int .i64 ay, .int .i64 bx, .int .i64 by'], .agg #[.int .i64 px, .int .i64 py], .agg #[.int .i64 qx, .int .i64 qy]] w fun e w' => e = .returned (.bool true) ∧ Below w.heap.size w w' := by
  have ho : orderI ax ay bx by' px py qx qy = cmpI (dotI ax ay bx by' px py) (dotI ax ay bx by' qx qy) := by unfold orderI; rw [u1, u2]; rfl
  have hi : insideB ax ay bx by' px py = (!decide (px = bx) || !decide (py = by')) := by unfold insideB; rw [u1, c1]; rfl
  have hw : IntKind.i64.wrap (dotI ax ay bx by' px py - dotI ax ay bx by' qx qy) = dotI ax ay bx by' px py - dotI ax ay bx by' qx qy := IntWalk.i64_in _ (by have := dot_bd ax ay bx by' px py; have := dot_bd ax ay bx by' qx qy; omega)
  have hc := cmp_sub (dotI ax ay bx by' px py) (dotI ax ay bx by' qx qy)
  go_enter Try.func6, Try.ntmps6
  go_upto_region 1 with (fail)
  refine plain_hid (fun W hW ops hops => ?_)
  have hb : Below w.heap.size w W := by rw [hW]; go_grown
  have hz : w.heap.size + 3 ≤ W.heap.size := by rw [hW]; simp
  have g0 : W.heap[w.heap.size]? = some (.cells #[.int .i64 ax, .int .i64 ay, .int .i64 bx, .int .i64 by'] 34) := by rw [hW]; exact heap_alloc_lt (heap_alloc_lt (heap_alloc_is (rfl)))
  have g1 : W.heap[w.heap.size + 1]? = some (.cells #[.int .i64 px, .int .i64 py] 23) := by rw [hW]; exact heap_alloc_lt (heap_alloc_is (by simp))
  have g2 : W.heap[w.heap.size + 1 + 1]? = some (.cells #[.int .i64 qx, .int .i64 qy] 23) := by rw [hW]; exact heap_alloc_is (by simp)
  clear hW
  clear hops
  have f0 : ∀ x : Later W [], x.w.cell? ⟨w.heap.size, 0, none⟩ = some (.int .i64 ax) := fun x => cell_of_block (Later.at0 g0 x) rfl
  have f1 : ∀ x : Later W [], x.w.cell? ⟨w.heap.size, 1, none⟩ = some (.int .i64 ay) := fun x => cell_of_block (Later.at0 g0 x) rfl
  have f2 : ∀ x : Later W [], x.w.cell? ⟨w.heap.size, 2, none⟩ = some (.int .i64 bx) := fun x => cell_of_block (Later.at0 g0 x) rfl
  have f3 : ∀ x : Later W [], x.w.cell? ⟨w.heap.size, 3, none⟩ = some (.int .i64 by') := fun x => cell_of_block (Later.at0 g0 x) rfl
  have f4 : ∀ x : Later W [], x.w.cell? ⟨w.heap.size + 1, 0, none⟩ = some (.int .i64 px) := fun x => cell_of_block (Later.at0 g1 x) rfl
  have f5 : ∀ x : Later W [], x.w.cell? ⟨w.heap.size + 1, 1, none⟩ = some (.int .i64 py) := fun x => cell_of_block (Later.at0 g1 x) rfl
  have f6 : ∀ x : Later W [], x.w.cell? ⟨w.heap.size + 1 + 1, 0, none⟩ = some (.int .i64 qx) := fun x => cell_of_block (Later.at0 g2 x) rfl
  have f7 : ∀ x : Later W [], x.w.cell? ⟨w.heap.size + 1 + 1, 1, none⟩ = some (.int .i64 qy) := fun x => cell_of_block (Later.at0 g2 x) rfl
  repeat (refine walkT_step (fun K hK => ?_); go_simp; first | (refine hK _ _ ?_; clear hK K) | (refine ⟨_, fun x => calm_ne2, ?_⟩; refine hK _ _ ?_; clear hK K) | (refine ⟨_, fun x => refon_any _ _ _ _ _ _ _, ?_⟩; refine hK _ _ ?_; clear hK K))
  refine walkT_nil ?_
  intro w1 hc
  replace g0 := hc.at0 g0
  replace g1 := hc.at0 g1
  replace g2 := hc.at0 g2
  replace hb := hb.trans (hc.below.mono hb.size)
  replace hz := Nat.le_trans hz hc.kept.size
  clear hc f0 f1 f2 f3 f4 f5 f6 f7 W
  go_upto_region 3 with (fail)
  refine plain_hid (fun W hW ops hops => ?_)
  subst hW
  have o1 : (ops[1]?).bind (fun x => x.dst) = some 13 := by rw [hops]; rfl
  clear hops
  have f8 : ∀ x : Later W [], x.w.cell? ⟨w.heap.size, 0, none⟩ = some (.int .i64 ax) := fun x => cell_of_block (Later.at0 g0 x) rfl
  have f9 : ∀ x : Later W [], x.w.cell? ⟨w.heap.size, 1, none⟩ = some (.int .i64 ay) := fun x => cell_of_block (Later.at0 g0 x) rfl
  have f10 : ∀ x : Later W [], x.w.cell? ⟨w.heap.size, 2, none⟩ = some (.int .i64 bx) := fun x => cell_of_block (Later.at0 g0 x) rfl
  have f11 : ∀ x : Later W [], x.w.cell? ⟨w.heap.size, 3, none⟩ = some (.int .i64 by') := fun x => cell_of_block (Later.at0 g0 x) rfl
  have f12 : ∀ x : Later W [], x.w.cell? ⟨w.heap.size + 1, 0, none⟩ = some (.int .i64 px) := fun x => cell_of_block (Later.at0 g1 x) rfl
  have f13 : ∀ x : Later W [], x.w.cell? ⟨w.heap.size + 1, 1, none⟩ = some (.int .i64 py) := fun x => cell_of_block (Later.at0 g1 x) rfl
  have f14 : ∀ x : Later W [], x.w.cell? ⟨w.heap.size + 1 + 1, 0, none⟩ = some (.int .i64 qx) := fun x => cell_of_block (Later.at0 g2 x) rfl
  have f15 : ∀ x : Later W [], x.w.cell? ⟨w.heap.size + 1 + 1, 1, none⟩ = some (.int .i64 qy) := fun x => cell_of_block (Later.at0 g2 x) rfl
  repeat (refine walkT_step (fun K hK => ?_); go_simp; first | (refine hK _ _ ?_; clear hK K) | (refine ⟨_, fun x => calm_ne2, ?_⟩; refine hK _ _ ?_; clear hK K) | (refine ⟨_, fun x => refon_any _ _ _ _ _ _ _, ?_⟩; refine hK _ _ ?_; clear hK K))
  refine walkT_nil ?_
  intro w1 hc
  replace g0 := hc.at0 g0
  replace g1 := hc.at0 g1
  replace g2 := hc.at0 g2
  replace hb := hb.trans (hc.below.mono hb.size)
  replace hz := Nat.le_trans hz hc.kept.size
  clear hc o1 f8 f9 f10 f11 f12 f13 f14 f15 W
  go_upto_region 4 with (fail)
  refine draws_hid (by kernel_rfl) (by kernel_rfl) (by kernel_rfl) (fun W hW ops hops => ?_)
  subst hW
  clear hops
  have f16 : ∀ x : Later W [], x.w.cell? ⟨w.heap.size, 0, none⟩ = some (.int .i64 ax) := fun x => cell_of_block (Later.at0 g0 x) rfl
  have f17 : ∀ x : Later W [], x.w.cell? ⟨w.heap.size, 1, none⟩ = some (.int .i64 ay) := fun x => cell_of_block (Later.at0 g0 x) rfl
  have f18 : ∀ x : Later W [], x.w.cell? ⟨w.heap.size, 2, none⟩ = some (.int .i64 bx) := fun x => cell_of_block (Later.at0 g0 x) rfl
  have f19 : ∀ x : Later W [], x.w.cell? ⟨w.heap.size, 3, none⟩ = some (.int .i64 by') := fun x => cell_of_block (Later.at0 g0 x) rfl
  have f20 : ∀ x : Later W [], x.w.cell? ⟨w.heap.size + 1, 0, none⟩ = some (.int .i64 px) := fun x => cell_of_block (Later.at0 g1 x) rfl
  have f21 : ∀ x : Later W [], x.w.cell? ⟨w.heap.size + 1, 1, none⟩ = some (.int .i64 py) := fun x => cell_of_block (Later.at0 g1 x) rfl
  have f22 : ∀ x : Later W [], x.w.cell? ⟨w.heap.size + 1 + 1, 0, none⟩ = some (.int .i64 qx) := fun x => cell_of_block (Later.at0 g2 x) rfl
  have f23 : ∀ x : Later W [], x.w.cell? ⟨w.heap.size + 1 + 1, 1, none⟩ = some (.int .i64 qy) := fun x => cell_of_block (Later.at0 g2 x) rfl
  repeat (refine walkT_step (fun K hK => ?_); go_simp; first | (refine hK _ _ ?_; clear hK K) | (refine ⟨_, fun x => calm_ne2, ?_⟩; refine hK _ _ ?_; clear hK K) | (refine ⟨_, fun x => refdot_any _ _ _ _ _ _ _, ?_⟩; refine hK _ _ ?_; clear hK K) | (refine ⟨_, fun x => sign_any _ _, ?_⟩; refine hK _ _ ?_; clear hK K))
  refine walkT_nil ?_
  intro w1 hc
  replace g0 := hc.at0 g0
  replace g1 := hc.at0 g1
  replace g2 := hc.at0 g2
  replace hb := hb.trans (hc.below.mono hb.size)
  replace hz := Nat.le_trans hz hc.kept.size
  clear hc f16 f17 f18 f19 f20 f21 f22 f23 W
  go_upto_region 5 with (fail)
  refine draws_hid (by kernel_rfl) (by kernel_rfl) (by kernel_rfl) (fun W hW ops hops => ?_)
  subst hW
  have o13 : (ops[13]?).bind (fun x => x.dst) = some 45 := by rw [hops]; rfl
  have o20 : (ops[20]?).bind (fun x => x.dst) = some 52 := by rw [hops]; rfl
  have o25 : (ops[25]?).bind (fun x => x.dst) = some 57 := by rw [hops]; rfl
  have o31 : (ops[31]?).bind (fun x => x.dst) = some 63 := by rw [hops]; rfl
  have o39 : (ops[39]?).bind (fun x => x.dst) = some 71 := by rw [hops]; rfl
  have o47 : (ops[47]?).bind (fun x => x.dst) = some 79 := by rw [hops]; rfl
  clear hops
  have f24 : ∀ x : Later W [], x.w.cell? ⟨w.heap.size, 0, none⟩ = some (.int .i64 ax) := fun x => cell_of_block (Later.at0 g0 x) rfl
  have f25 : ∀ x : Later W [], x.w.cell? ⟨w.heap.size, 1, none⟩ = some (.int .i64 ay) := fun x => cell_of_block (Later.at0 g0 x) rfl
  have f26 : ∀ x : Later W [], x.w.cell? ⟨w.heap.size, 2, none⟩ = some (.int .i64 bx) := fun x => cell_of_block (Later.at0 g0 x) rfl
  have f27 : ∀ x : Later W [], x.w.cell? ⟨w.heap.size, 3, none⟩ = some (.int .i64 by') := fun x => cell_of_block (Later.at0 g0 x) rfl
  have f28 : ∀ x : Later W [], x.w.cell? ⟨w.heap.size + 1, 0, none⟩ = some (.int .i64 px) := fun x => cell_of_block (Later.at0 g1 x) rfl
  have f29 : ∀ x : Later W [], x.w.cell? ⟨w.heap.size + 1, 1, none⟩ = some (.int .i64 py) := fun x => cell_of_block (Later.at0 g1 x) rfl
  have f30 : ∀ x : Later W [], x.w.cell? ⟨w.heap.size + 1 + 1, 0, none⟩ = some (.int .i64 qx) := fun x => cell_of_block (Later.at0 g2 x) rfl
  have f31 : ∀ x : Later W [], x.w.cell? ⟨w.heap.size + 1 + 1, 1, none⟩ = some (.int .i64 qy) := fun x => cell_of_block (Later.at0 g2 x) rfl
  repeat (refine walkT_step (fun K hK => ?_); go_simp; first | (refine hK _ _ ?_; clear hK K) | (refine ⟨_, fun x => calm_ne2, ?_⟩; refine hK _ _ ?_; clear hK K) | (refine ⟨_, fun x => side_any _ _ _ _ _ _ _, ?_⟩; refine hK _ _ ?_; clear hK K) | (refine ⟨_, fun x => refside_any _ _ _ _ _ _ _, ?_⟩; refine hK _ _ ?_; clear hK K) | (refine ⟨_, fun x => on_any _ _ _ _ _ _ _, ?_⟩; refine hK _ _ ?_; clear hK K) | (refine ⟨_, fun x => inside_any _ _ _ _ _ _ _, ?_⟩; refine hK _ _ ?_; clear hK K) | (refine ⟨_, fun x => order_any _ _ _ _ _ _ _ _ _, ?_⟩; refine hK _ _ ?_; clear hK K) | (refine ⟨_, fun x => awake8_any _, ?_⟩; refine hK _ _ ?_; clear hK K))
  refine walkT_nil ?_
  intro w2 hc
  replace g0 := hc.at0 g0
  replace g1 := hc.at0 g1
  replace g2 := hc.at0 g2
  replace hb := hb.trans (hc.below.mono hb.size)
  replace hz := Nat.le_trans hz hc.kept.size
  clear hc o13 o20 o25 o31 o39 o47 f24 f25 f26 f27 f28 f29 f30 f31 W
  go_wp2
  go_ret
  exact ⟨rfl, hb⟩


theorem sides_all (ax ay bx by' px py qx qy : Int) (w : World) : Calls Try.prog 6 #[.agg #[.int .i64 ax, .int .i64 ay, .int .i64 bx, .int .i64 by'], .agg #[.int .i64 px, .int .i64 py], .agg #[.int .i64 qx, .int .i64 qy]] w fun e w' => e = .returned (.bool true) ∧ Below w.heap.size w w' := by
  cases u1 : onB ax ay bx by' px py
  · exact sides_off ax ay bx by' px py qx qy w u1
  · cases u2 : onB ax ay bx by' qx qy <;> cases c1 : (!decide (px = ax) || !decide (py = ay))
    · exact sides_ff ax ay bx by' px py qx qy w u1 u2 c1
    · exact sides_ft ax ay bx by' px py qx qy w u1 u2 c1
    · exact sides_tf ax ay bx by' px py qx qy w u1 u2 c1
    · exact sides_tt ax ay bx by' px py qx qy w u1 u2 c1


namespace orientSides
open Go.ChangeShapes Go.WideShapes Go.ChangeAt
theorem spec_is (H : Type) : ∀ ds : List (DataW H), ds.length = 3 → Rows.orientSidesSpec.fn H ds = { results := [.lit (.bool true)], args := ds }
  | [], h => by cases h
  | [_], h => by cases h
  | [_, _], h => by cases h
  | [_, _, _], _ => rfl
  | _ :: _ :: _ :: _ :: _, h => by simp at h

theorem args_of {args : Array Value} (h : args.size = 3) : ∃ v0 v1 v2, args = #[v0, v1, v2] := by
  refine ⟨args[0], args[1], args[2], ?_⟩
  apply Array.ext
  · simpa using h
  · intro i h1 h2
    match i, h1 with
    | 0, _ => rfl
    | 1, _ => rfl
    | 2, _ => rfl
    | m + 3, hm => exact absurd hm (by omega)

set_option maxRecDepth 100000 in
theorem over : Rows.orientSidesRow.holds Try.pinned (OpenSpec.ofChange Rows.orientSidesSpec) :=
  OpenClaim.holds_of_wide 6 Try.f6 rfl rfl rfl rfl rfl rfl rfl ⟨rfl, rfl, rfl, rfl, rfl⟩ rfl rfl rfl rfl rfl (by kernel_rfl) Try.func6 (by kernel_rfl)
    (of_decide_eq_true (by kernel_rfl)) (by unfold Func.isWrapper; first | (rw [if_pos (by decide +kernel)]; kernel_rfl) | (rw [if_neg (by decide +kernel)]; exact ⟨rfl, rfl⟩))
    (fun os started H enc _ => Kit.lifted (C := Try.checked) (tb := 4) (n := 3) (by kernel_rfl) (by kernel_rfl) (by kernel_rfl) Try.func6 rfl (by kernel_rfl) Try.underlying4 (by kernel_rfl)
      (by
        have e : Try.f6.params.toList = [34, 23, 23] := by rw [Try.params6]
        rw [e]
        intro t ht
        simp only [List.mem_cons, List.not_mem_nil, or_false] at ht
        rcases ht with rfl | rfl | rfl <;> exact ⟨by kernel_rfl, of_decide_eq_true (by kernel_rfl)⟩)
      spec_is
      (by
        intro W base args H enc ds p hn hval hA hfz hz
        obtain ⟨v0, v1, v2, rfl⟩ := args_of hn
        rw [Try.params6] at hval
        have k0 := hval 0 34 v0 rfl rfl
        have k1 := hval 1 23 v1 rfl rfl
        have k2 := hval 2 23 v2 rfl rfl
        clear hval
        obtain ⟨ax, ay, bx, by', rfl, _⟩ := Kit.agg4_of Try.underlying34 cSeg tSeg uSeg k0
        obtain ⟨px, py, rfl, _, _⟩ := Kit.agg2_of Try.underlying23 cPt tPt uInt k1
        obtain ⟨qx, qy, rfl, _, _⟩ := Kit.agg2_of Try.underlying23 cPt tPt uInt k2
        exact sides_all ax ay bx by' px py qx qy W)
      os started H enc
      (ChangeSpec.witness6 (enc := enc) (C := Try.checked) false ⟨#[], #[.agg #[.int .i64 0, .int .i64 0, .int .i64 0, .int .i64 0], .agg #[.int .i64 0, .int .i64 0], .agg #[.int .i64 0, .int .i64 0]], []⟩ 8 (by kernel_rfl) (by kernel_rfl) (by kernel_rfl) (by kernel_rfl)))
end orientSides

/-- THE STATEMENT. -/
theorem orientSides_holds : Rows.OrientSidesSaid := orientSides.over
#print axioms orientSides_holds

end Go.Proofs.Ytcpjgcpclekjkaa
