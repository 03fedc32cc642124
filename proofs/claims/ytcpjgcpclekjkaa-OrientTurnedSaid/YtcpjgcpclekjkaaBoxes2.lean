/-
  WALKS OVER LINES, GONE ON: a line's box; which boxes are apart. CONDITIONS: none.
-/
import Derived.Test.YtcpjgcpclekjkaaBoxes
import Derived.RegionTactic
namespace Go.Proofs.Ytcpjgcpclekjkaa
open Go.RowKit Go.Proofs.Ytcpjgcpclekjkaa.Tame
set_option maxHeartbeats 400000


theorem box_no (ax ay bx by' : Int) (w : World) (h : lineB ax ay bx by' = false) : Calls Try.prog 21 #[.agg #[.int .i64 ax, .int .i64 ay, .int .i64 bx, .int .i64 by']] w fun e w' => e = .returned (.tuple #[.agg #[.int .i64 0, .int .i64 0], .agg #[.int .i64 0, .int .i64 0]]) ∧ Below w.heap.size w w' := by
  go_enter Try.func21, Try.ntmps21
  go_upto_region 1 with (fail)
  refine plain_hid (fun W hW ops hops => ?_)
  have hb : Below w.heap.size w W := by rw [hW]; go_grown
  have hz : w.heap.size + 3 ≤ W.heap.size := by rw [hW]; simp
  have g0 : W.heap[w.heap.size]? = some (.cells #[.int .i64 ax, .int .i64 ay, .int .i64 bx, .int .i64 by'] 34) := by rw [hW]; exact heap_alloc_lt (heap_alloc_lt (heap_alloc_is (rfl)))
  have g1 : W.heap[w.heap.size + 1]? = some (.cells #[.int .i64 0, .int .i64 0] 23) := by rw [hW]; exact heap_alloc_lt (heap_alloc_is (by simp))
  have g2 : W.heap[w.heap.size + 1 + 1]? = some (.cells #[.int .i64 0, .int .i64 0] 23) := by rw [hW]; exact heap_alloc_is (by simp)
  clear hW
  clear hops
  have f0 : ∀ x : Later W [], x.w.cell? ⟨w.heap.size, 0, none⟩ = some (.int .i64 ax) := fun x => cell_of_block (Later.at0 g0 x) rfl
  have f1 : ∀ x : Later W [], x.w.cell? ⟨w.heap.size, 1, none⟩ = some (.int .i64 ay) := fun x => cell_of_block (Later.at0 g0 x) rfl
  have f2 : ∀ x : Later W [], x.w.cell? ⟨w.heap.size, 2, none⟩ = some (.int .i64 bx) := fun x => cell_of_block (Later.at0 g0 x) rfl
  have f3 : ∀ x : Later W [], x.w.cell? ⟨w.heap.size, 3, none⟩ = some (.int .i64 by') := fun x => cell_of_block (Later.at0 g0 x) rfl
  have f4 : ∀ x : Later W [], x.w.cell? ⟨w.heap.size + 1, 0, none⟩ = some (.int .i64 0) := fun x => cell_of_block (Later.at0 g1 x) rfl
  have f5 : ∀ x : Later W [], x.w.cell? ⟨w.heap.size + 1, 1, none⟩ = some (.int .i64 0) := fun x => cell_of_block (Later.at0 g1 x) rfl
  have f6 : ∀ x : Later W [], x.w.cell? ⟨w.heap.size + 1 + 1, 0, none⟩ = some (.int .i64 0) := fun x => cell_of_block (Later.at0 g2 x) rfl
  have f7 : ∀ x : Later W [], x.w.cell? ⟨w.heap.size + 1 + 1, 1, none⟩ = some (.int .i64 0) := fun x => cell_of_block (Later.at0 g2 x) rfl
  repeat (refine walkT_step (fun K hK => ?_); go_simp; first | (refine hK _ _ ?_; clear hK K) | (refine ⟨_, fun x => line_any _ _ _ _ _, ?_⟩; refine hK _ _ ?_; clear hK K))
  refine walkT_nil ?_
  intro w1 hc
  replace g0 := hc.at0 g0
  replace g1 := hc.at0 g1
  replace g2 := hc.at0 g2
  replace hb := hb.trans (hc.below.mono hb.size)
  replace hz := Nat.le_trans hz hc.kept.size
  clear hc f0 f1 f2 f3 f4 f5 f6 f7 W
  have f8 : w1.cell? ⟨w.heap.size, 0, none⟩ = some (.int .i64 ax) := cell_of_block g0 rfl
  have f9 : w1.cell? ⟨w.heap.size, 1, none⟩ = some (.int .i64 ay) := cell_of_block g0 rfl
  have f10 : w1.cell? ⟨w.heap.size, 2, none⟩ = some (.int .i64 bx) := cell_of_block g0 rfl
  have f11 : w1.cell? ⟨w.heap.size, 3, none⟩ = some (.int .i64 by') := cell_of_block g0 rfl
  have f12 : w1.cell? ⟨w.heap.size + 1, 0, none⟩ = some (.int .i64 0) := cell_of_block g1 rfl
  have f13 : w1.cell? ⟨w.heap.size + 1, 1, none⟩ = some (.int .i64 0) := cell_of_block g1 rfl
  have f14 : w1.cell? ⟨w.heap.size + 1 + 1, 0, none⟩ = some (.int .i64 0) := cell_of_block g2 rfl
  have f15 : w1.cell? ⟨w.heap.size + 1 + 1, 1, none⟩ = some (.int .i64 0) := cell_of_block g2 rfl
  have d16 : w1.frozen? ⟨w.heap.size, 0, none⟩ = false := free_of_block g0
  have d17 : w1.frozen? ⟨w.heap.size, 1, none⟩ = false := free_of_block g0
  have d18 : w1.frozen? ⟨w.heap.size, 2, none⟩ = false := free_of_block g0
  have d19 : w1.frozen? ⟨w.heap.size, 3, none⟩ = false := free_of_block g0
  have d20 : w1.frozen? ⟨w.heap.size + 1, 0, none⟩ = false := free_of_block g1
  have d21 : w1.frozen? ⟨w.heap.size + 1, 1, none⟩ = false := free_of_block g1
  have d22 : w1.frozen? ⟨w.heap.size + 1 + 1, 0, none⟩ = false := free_of_block g2
  have d23 : w1.frozen? ⟨w.heap.size + 1 + 1, 1, none⟩ = false := free_of_block g2
  go_wp2
  go_region
  go_wp2
  clear f8 f9 f10 f11 f12 f13 f14 f15 d16 d17 d18 d19 d20 d21 d22 d23
  refine ret_at (fun we hW2 => ?_)
  have g0n : we.heap[w.heap.size]? = some (.cells #[.int .i64 ax, .int .i64 ay, .int .i64 bx, .int .i64 by'] 34) := by rw [hW2]; exact set_other (set_other (set_other (set_other (g0) (by omega)) (by omega)) (by omega)) (by omega)
  have g1n : we.heap[w.heap.size + 1]? = some (.cells #[.int .i64 0, .int .i64 0] 23) := by rw [hW2]; exact set_other (set_other (set_block (set_block (g1))) (by omega)) (by omega)
  have g2n : we.heap[w.heap.size + 1 + 1]? = some (.cells #[.int .i64 0, .int .i64 0] 23) := by rw [hW2]; exact set_block (set_block (set_other (set_other (g2) (by omega)) (by omega)))
  have hbn : Below w.heap.size w we := by rw [hW2]; exact (((((hb).setCell (by first | (simp; done) | (simp; omega)) _).setCell (by first | (simp; done) | (simp; omega)) _).setCell (by first | (simp; done) | (simp; omega)) _).setCell (by first | (simp; done) | (simp; omega)) _).drew
  have hzn : w.heap.size + 3 ≤ we.heap.size := by rw [hW2]; simp only [World.size_setCell, World.size_drew]; exact hz
  clear hW2 hb hz g0 g1 g2
  have g0 := g0n
  clear g0n
  have g1 := g1n
  clear g1n
  have g2 := g2n
  clear g2n
  have hb := hbn
  have hz := hzn
  clear hbn hzn
  have r24 : we.cell? ⟨w.heap.size + 1, 0, none⟩ = some (.int .i64 0) := cell_of_block g1 rfl
  have r25 : we.cell? ⟨w.heap.size + 1, 1, none⟩ = some (.int .i64 0) := cell_of_block g1 rfl
  have r26 : we.cell? ⟨w.heap.size + 1 + 1, 0, none⟩ = some (.int .i64 0) := cell_of_block g2 rfl
  have r27 : we.cell? ⟨w.heap.size + 1 + 1, 1, none⟩ = some (.int .i64 0) := cell_of_block g2 rfl
  exact bodyPost_ret (v := .tuple #[.agg #[.int .i64 0, .int .i64 0], .agg #[.int .i64 0, .int .i64 0]]) (by simp [results, Try.results21, go_sem, r24, r25, r26, r27]) rfl ⟨rfl, hb⟩


theorem box_yes (ax ay bx by' : Int) (w : World) (h : lineB ax ay bx by' = true) : Calls Try.prog 21 #[.agg #[.int .i64 ax, .int .i64 ay, .int .i64 bx, .int .i64 by']] w fun e w' => e = .returned (.tuple #[.agg #[.int .i64 (minI ax bx), .int .i64 (minI ay by')], .agg #[.int .i64 (maxI ax bx), .int .i64 (maxI ay by')]]) ∧ Below w.heap.size w w' := by
  have hm1 : (if bx < ax then bx else ax) = minI ax bx := rfl
  have hm2 : (if by' < ay then by' else ay) = minI ay by' := rfl
  have hm3 : (if ax < bx then bx else ax) = maxI ax bx := rfl
  have hm4 : (if ay < by' then by' else ay) = maxI ay by' := rfl
  go_enter Try.func21, Try.ntmps21
  go_upto_region 1 with (fail)
  refine plain_hid (fun W hW ops hops => ?_)
  have hb : Below w.heap.size w W := by rw [hW]; go_grown
  have hz : w.heap.size + 3 ≤ W.heap.size := by rw [hW]; simp
  have g0 : W.heap[w.heap.size]? = some (.cells #[.int .i64 ax, .int .i64 ay, .int .i64 bx, .int .i64 by'] 34) := by rw [hW]; exact heap_alloc_lt (heap_alloc_lt (heap_alloc_is (rfl)))
  have g1 : W.heap[w.heap.size + 1]? = some (.cells #[.int .i64 0, .int .i64 0] 23) := by rw [hW]; exact heap_alloc_lt (heap_alloc_is (by simp))
  have g2 : W.heap[w.heap.size + 1 + 1]? = some (.cells #[.int .i64 0, .int .i64 0] 23) := by rw [hW]; exact heap_alloc_is (by simp)
  clear hW
  clear hops
  have f0 : ∀ x : Later W [], x.w.cell? ⟨w.heap.size, 0, none⟩ = some (.int .i64 ax) := fun x => cell_of_block (Later.at0 g0 x) rfl
  have f1 : ∀ x : Later W [], x.w.cell? ⟨w.heap.size, 1, none⟩ = some (.int .i64 ay) := fun x => cell_of_block (Later.at0 g0 x) rfl
  have f2 : ∀ x : Later W [], x.w.cell? ⟨w.heap.size, 2, none⟩ = some (.int .i64 bx) := fun x => cell_of_block (Later.at0 g0 x) rfl
  have f3 : ∀ x : Later W [], x.w.cell? ⟨w.heap.size, 3, none⟩ = some (.int .i64 by') := fun x => cell_of_block (Later.at0 g0 x) rfl
  have f4 : ∀ x : Later W [], x.w.cell? ⟨w.heap.size + 1, 0, none⟩ = some (.int .i64 0) := fun x => cell_of_block (Later.at0 g1 x) rfl
  have f5 : ∀ x : Later W [], x.w.cell? ⟨w.heap.size + 1, 1, none⟩ = some (.int .i64 0) := fun x => cell_of_block (Later.at0 g1 x) rfl
  have f6 : ∀ x : Later W [], x.w.cell? ⟨w.heap.size + 1 + 1, 0, none⟩ = some (.int .i64 0) := fun x => cell_of_block (Later.at0 g2 x) rfl
  have f7 : ∀ x : Later W [], x.w.cell? ⟨w.heap.size + 1 + 1, 1, none⟩ = some (.int .i64 0) := fun x => cell_of_block (Later.at0 g2 x) rfl
  repeat (refine walkT_step (fun K hK => ?_); go_simp; first | (refine hK _ _ ?_; clear hK K) | (refine ⟨_, fun x => line_any _ _ _ _ _, ?_⟩; refine hK _ _ ?_; clear hK K))
  refine walkT_nil ?_
  intro w1 hc
  replace g0 := hc.at0 g0
  replace g1 := hc.at0 g1
  replace g2 := hc.at0 g2
  replace hb := hb.trans (hc.below.mono hb.size)
  replace hz := Nat.le_trans hz hc.kept.size
  clear hc f0 f1 f2 f3 f4 f5 f6 f7 W
  have f8 : w1.cell? ⟨w.heap.size, 0, none⟩ = some (.int .i64 ax) := cell_of_block g0 rfl
  have f9 : w1.cell? ⟨w.heap.size, 1, none⟩ = some (.int .i64 ay) := cell_of_block g0 rfl
  have f10 : w1.cell? ⟨w.heap.size, 2, none⟩ = some (.int .i64 bx) := cell_of_block g0 rfl
  have f11 : w1.cell? ⟨w.heap.size, 3, none⟩ = some (.int .i64 by') := cell_of_block g0 rfl
  have f12 : w1.cell? ⟨w.heap.size + 1, 0, none⟩ = some (.int .i64 0) := cell_of_block g1 rfl
  have f13 : w1.cell? ⟨w.heap.size + 1, 1, none⟩ = some (.int .i64 0) := cell_of_block g1 rfl
  have f14 : w1.cell? ⟨w.heap.size + 1 + 1, 0, none⟩ = some (.int .i64 0) := cell_of_block g2 rfl
  have f15 : w1.cell? ⟨w.heap.size + 1 + 1, 1, none⟩ = some (.int .i64 0) := cell_of_block g2 rfl
  have d16 : w1.frozen? ⟨w.heap.size, 0, none⟩ = false := free_of_block g0
  have d17 : w1.frozen? ⟨w.heap.size, 1, none⟩ = false := free_of_block g0
  have d18 : w1.frozen? ⟨w.heap.size, 2, none⟩ = false := free_of_block g0
  have d19 : w1.frozen? ⟨w.heap.size, 3, none⟩ = false := free_of_block g0
  have d20 : w1.frozen? ⟨w.heap.size + 1, 0, none⟩ = false := free_of_block g1
  have d21 : w1.frozen? ⟨w.heap.size + 1, 1, none⟩ = false := free_of_block g1
  have d22 : w1.frozen? ⟨w.heap.size + 1 + 1, 0, none⟩ = false := free_of_block g2
  have d23 : w1.frozen? ⟨w.heap.size + 1 + 1, 1, none⟩ = false := free_of_block g2
  go_upto_region 5 with (fail)
  clear f8 f9 f10 f11 f12 f13 f14 f15 d16 d17 d18 d19 d20 d21 d22 d23
  refine wp_at (fun w2 hW2 => ?_)
  have g0n : w2.heap[w.heap.size]? = some (.cells #[.int .i64 ax, .int .i64 ay, .int .i64 bx, .int .i64 by'] 34) := by rw [hW2]; exact set_other (set_other (set_other (set_other (g0) (by omega)) (by omega)) (by omega)) (by omega)
  have g1n : w2.heap[w.heap.size + 1]? = some (.cells #[.int .i64 (minI ax bx), .int .i64 (minI ay by')] 23) := by rw [hW2]; exact set_other (set_other (set_block (set_block (g1))) (by omega)) (by omega)
  have g2n : w2.heap[w.heap.size + 1 + 1]? = some (.cells #[.int .i64 (maxI ax bx), .int .i64 (maxI ay by')] 23) := by rw [hW2]; exact set_block (set_block (set_other (set_other (g2) (by omega)) (by omega)))
  have hbn : Below w.heap.size w w2 := by rw [hW2]; exact (((((hb).setCell (by first | (simp; done) | (simp; omega)) _).setCell (by first | (simp; done) | (simp; omega)) _).setCell (by first | (simp; done) | (simp; omega)) _).setCell (by first | (simp; done) | (simp; omega)) _)
  have hzn : w.heap.size + 3 ≤ w2.heap.size := by rw [hW2]; simp only [World.size_setCell]; exact hz
  clear hW2 hb hz g0 g1 g2
  have g0 := g0n
  clear g0n
  have g1 := g1n
  clear g1n
  have g2 := g2n
  clear g2n
  have hb := hbn
  have hz := hzn
  clear hbn hzn
  have f24 : w2.cell? ⟨w.heap.size, 0, none⟩ = some (.int .i64 ax) := cell_of_block g0 rfl
  have f25 : w2.cell? ⟨w.heap.size, 1, none⟩ = some (.int .i64 ay) := cell_of_block g0 rfl
  have f26 : w2.cell? ⟨w.heap.size, 2, none⟩ = some (.int .i64 bx) := cell_of_block g0 rfl
  have f27 : w2.cell? ⟨w.heap.size, 3, none⟩ = some (.int .i64 by') := cell_of_block g0 rfl
  have f28 : w2.cell? ⟨w.heap.size + 1, 0, none⟩ = some (.int .i64 (minI ax bx)) := cell_of_block g1 rfl
  have f29 : w2.cell? ⟨w.heap.size + 1, 1, none⟩ = some (.int .i64 (minI ay by')) := cell_of_block g1 rfl
  have f30 : w2.cell? ⟨w.heap.size + 1 + 1, 0, none⟩ = some (.int .i64 (maxI ax bx)) := cell_of_block g2 rfl
  have f31 : w2.cell? ⟨w.heap.size + 1 + 1, 1, none⟩ = some (.int .i64 (maxI ay by')) := cell_of_block g2 rfl
  have d32 : w2.frozen? ⟨w.heap.size, 0, none⟩ = false := free_of_block g0
  have d33 : w2.frozen? ⟨w.heap.size, 1, none⟩ = false := free_of_block g0
  have d34 : w2.frozen? ⟨w.heap.size, 2, none⟩ = false := free_of_block g0
  have d35 : w2.frozen? ⟨w.heap.size, 3, none⟩ = false := free_of_block g0
  have d36 : w2.frozen? ⟨w.heap.size + 1, 0, none⟩ = false := free_of_block g1
  have d37 : w2.frozen? ⟨w.heap.size + 1, 1, none⟩ = false := free_of_block g1
  have d38 : w2.frozen? ⟨w.heap.size + 1 + 1, 0, none⟩ = false := free_of_block g2
  have d39 : w2.frozen? ⟨w.heap.size + 1 + 1, 1, none⟩ = false := free_of_block g2
  go_region
  go_wp2
  clear f24 f25 f26 f27 f28 f29 f30 f31 d32 d33 d34 d35 d36 d37 d38 d39
  refine ret_at (fun we hW2 => ?_)
  have g0n : we.heap[w.heap.size]? = some (.cells #[.int .i64 ax, .int .i64 ay, .int .i64 bx, .int .i64 by'] 34) := by rw [hW2]; exact set_other (set_other (set_other (set_other (g0) (by omega)) (by omega)) (by omega)) (by omega)
  have g1n : we.heap[w.heap.size + 1]? = some (.cells #[.int .i64 (minI ax bx), .int .i64 (minI ay by')] 23) := by rw [hW2]; exact set_other (set_other (set_block (set_block (g1))) (by omega)) (by omega)
  have g2n : we.heap[w.heap.size + 1 + 1]? = some (.cells #[.int .i64 (maxI ax bx), .int .i64 (maxI ay by')] 23) := by rw [hW2]; exact set_block (set_block (set_other (set_other (g2) (by omega)) (by omega)))
  have hbn : Below w.heap.size w we := by rw [hW2]; exact (((((hb).setCell (by first | (simp; done) | (simp; omega)) _).setCell (by first | (simp; done) | (simp; omega)) _).setCell (by first | (simp; done) | (simp; omega)) _).setCell (by first | (simp; done) | (simp; omega)) _).drew
  have hzn : w.heap.size + 3 ≤ we.heap.size := by rw [hW2]; simp only [World.size_setCell, World.size_drew]; exact hz
  clear hW2 hb hz g0 g1 g2
  have g0 := g0n
  clear g0n
  have g1 := g1n
  clear g1n
  have g2 := g2n
  clear g2n
  have hb := hbn
  have hz := hzn
  clear hbn hzn
  have r40 : we.cell? ⟨w.heap.size + 1, 0, none⟩ = some (.int .i64 (minI ax bx)) := cell_of_block g1 rfl
  have r41 : we.cell? ⟨w.heap.size + 1, 1, none⟩ = some (.int .i64 (minI ay by')) := cell_of_block g1 rfl
  have r42 : we.cell? ⟨w.heap.size + 1 + 1, 0, none⟩ = some (.int .i64 (maxI ax bx)) := cell_of_block g2 rfl
  have r43 : we.cell? ⟨w.heap.size + 1 + 1, 1, none⟩ = some (.int .i64 (maxI ay by')) := cell_of_block g2 rfl
  exact bodyPost_ret (v := .tuple #[.agg #[.int .i64 (minI ax bx), .int .i64 (minI ay by')], .agg #[.int .i64 (maxI ax bx), .int .i64 (maxI ay by')]]) (by simp [results, Try.results21, go_sem, r40, r41, r42, r43]) rfl ⟨rfl, hb⟩


def bminI (ax ay bx by' m : Int) : Int := if lineB ax ay bx by' = true then m else 0
theorem box_any (ax ay bx by' : Int) (w : World) : Calls Try.prog 21 #[.agg #[.int .i64 ax, .int .i64 ay, .int .i64 bx, .int .i64 by']] w fun e w' => e = .returned (.tuple #[.agg #[.int .i64 (bminI ax ay bx by' (minI ax bx)), .int .i64 (bminI ax ay bx by' (minI ay by'))], .agg #[.int .i64 (bminI ax ay bx by' (maxI ax bx)), .int .i64 (bminI ax ay bx by' (maxI ay by'))]]) ∧ Below w.heap.size w w' := by
  unfold bminI
  cases h : lineB ax ay bx by'
  · exact box_no ax ay bx by' w h
  · exact box_yes ax ay bx by' w h


def apartB (ax ay bx by' cx cy dx dy : Int) : Bool := lineB ax ay bx by' && lineB cx cy dx dy && (decide (maxI ax bx < minI cx dx) || decide (maxI cx dx < minI ax bx) || decide (maxI ay by' < minI cy dy) || decide (maxI cy dy < minI ay by'))

theorem apart_no (ax ay bx by' cx cy dx dy : Int) (w : World) (h : (lineB ax ay bx by' && lineB cx cy dx dy) = false) : Calls Try.prog 24 #[.agg #[.int .i64 ax, .int .i64 ay, .int .i64 bx, .int .i64 by'], .agg #[.int .i64 cx, .int .i64 cy, .int .i64 dx, .int .i64 dy]] w fun e w' => e = .returned (.bool false) ∧ Below w.heap.size w w' := by
  cases h1 : lineB ax ay bx by' <;> cases h2 : lineB cx cy dx dy <;> rw [h1, h2] at h <;> first | (exfalso; revert h; decide) | skip
  all_goals
    clear h
    go_enter Try.func24, Try.ntmps24
    go_upto_region 1 with (fail)
    refine plain_hid (fun W hW ops hops => ?_)
    have hb : Below w.heap.size w W := by rw [hW]; go_grown
    have hz : w.heap.size + 2 ≤ W.heap.size := by rw [hW]; simp
    have g0 : W.heap[w.heap.size]? = some (.cells #[.int .i64 ax, .int .i64 ay, .int .i64 bx, .int .i64 by'] 34) := by rw [hW]; exact heap_alloc_lt (heap_alloc_is (rfl))
    have g1 : W.heap[w.heap.size + 1]? = some (.cells #[.int .i64 cx, .int .i64 cy, .int .i64 dx, .int .i64 dy] 34) := by rw [hW]; exact heap_alloc_is (by simp)
    clear hW
    have o3 : (ops[3]?).bind (fun x => x.dst) = some 12 := by rw [hops]; rfl
    clear hops
    have f0 : ∀ x : Later W [], x.w.cell? ⟨w.heap.size, 0, none⟩ = some (.int .i64 ax) := fun x => cell_of_block (Later.at0 g0 x) rfl
    have f1 : ∀ x : Later W [], x.w.cell? ⟨w.heap.size, 1, none⟩ = some (.int .i64 ay) := fun x => cell_of_block (Later.at0 g0 x) rfl
    have f2 : ∀ x : Later W [], x.w.cell? ⟨w.heap.size, 2, none⟩ = some (.int .i64 bx) := fun x => cell_of_block (Later.at0 g0 x) rfl
    have f3 : ∀ x : Later W [], x.w.cell? ⟨w.heap.size, 3, none⟩ = some (.int .i64 by') := fun x => cell_of_block (Later.at0 g0 x) rfl
    have f4 : ∀ x : Later W [], x.w.cell? ⟨w.heap.size + 1, 0, none⟩ = some (.int .i64 cx) := fun x => cell_of_block (Later.at0 g1 x) rfl
    have f5 : ∀ x : Later W [], x.w.cell? ⟨w.heap.size + 1, 1, none⟩ = some (.int .i64 cy) := fun x => cell_of_block (Later.at0 g1 x) rfl
    have f6 : ∀ x : Later W [], x.w.cell? ⟨w.heap.size + 1, 2, none⟩ = some (.int .i64 dx) := fun x => cell_of_block (Later.at0 g1 x) rfl
    have f7 : ∀ x : Later W [], x.w.cell? ⟨w.heap.size + 1, 3, none⟩ = some (.int .i64 dy) := fun x => cell_of_block (Later.at0 g1 x) rfl
    repeat (refine walkT_step (fun K hK => ?_); go_simp; first | (refine hK _ _ ?_; clear hK K) | (refine ⟨_, fun x => line_any _ _ _ _ _, ?_⟩; refine hK _ _ ?_; clear hK K))
    refine walkT_nil ?_
    intro w1 hc
    replace g0 := hc.at0 g0
    replace g1 := hc.at0 g1
    replace hb := hb.trans (hc.below.mono hb.size)
    replace hz := Nat.le_trans hz hc.kept.size
    clear hc o3 f0 f1 f2 f3 f4 f5 f6 f7 W
    go_wp2
    go_ret
    exact ⟨rfl, hb⟩


set_option maxHeartbeats 2000000 in
theorem apart_yes (ax ay bx by' cx cy dx dy : Int) (w : World) (h1 : lineB ax ay bx by' = true) (h2 : lineB cx cy dx dy = true) : Calls Try.prog 24 #[.agg #[.int .i64 ax, .int .i64 ay, .int .i64 bx, .int .i64 by'], .agg #[.int .i64 cx, .int .i64 cy, .int .i64 dx, .int .i64 dy]] w fun e w' => e = .returned (.bool (decide (maxI ax bx < minI cx dx) || decide (maxI cx dx < minI ax bx) || decide (maxI ay by' < minI cy dy) || decide (maxI cy dy < minI ay by'))) ∧ Below w.heap.size w w' := by
  go_enter Try.func24, Try.ntmps24
  go_upto_region 1 with (fail)
  refine plain_hid (fun W hW ops hops => ?_)
  have hb : Below w.heap.size w W := by rw [hW]; go_grown
  have hz : w.heap.size + 2 ≤ W.heap.size := by rw [hW]; simp
  have g0 : W.heap[w.heap.size]? = some (.cells #[.int .i64 ax, .int .i64 ay, .int .i64 bx, .int .i64 by'] 34) := by rw [hW]; exact heap_alloc_lt (heap_alloc_is (rfl))
  have g1 : W.heap[w.heap.size + 1]? = some (.cells #[.int .i64 cx, .int .i64 cy, .int .i64 dx, .int .i64 dy] 34) := by rw [hW]; exact heap_alloc_is (by simp)
  clear hW
  have o3 : (ops[3]?).bind (fun x => x.dst) = some 12 := by rw [hops]; rfl
  clear hops
  have f0 : ∀ x : Later W [], x.w.cell? ⟨w.heap.size, 0, none⟩ = some (.int .i64 ax) := fun x => cell_of_block (Later.at0 g0 x) rfl
  have f1 : ∀ x : Later W [], x.w.cell? ⟨w.heap.size, 1, none⟩ = some (.int .i64 ay) := fun x => cell_of_block (Later.at0 g0 x) rfl
  have f2 : ∀ x : Later W [], x.w.cell? ⟨w.heap.size, 2, none⟩ = some (.int .i64 bx) := fun x => cell_of_block (Later.at0 g0 x) rfl
  have f3 : ∀ x : Later W [], x.w.cell? ⟨w.heap.size, 3, none⟩ = some (.int .i64 by') := fun x => cell_of_block (Later.at0 g0 x) rfl
  have f4 : ∀ x : Later W [], x.w.cell? ⟨w.heap.size + 1, 0, none⟩ = some (.int .i64 cx) := fun x => cell_of_block (Later.at0 g1 x) rfl
  have f5 : ∀ x : Later W [], x.w.cell? ⟨w.heap.size + 1, 1, none⟩ = some (.int .i64 cy) := fun x => cell_of_block (Later.at0 g1 x) rfl
  have f6 : ∀ x : Later W [], x.w.cell? ⟨w.heap.size + 1, 2, none⟩ = some (.int .i64 dx) := fun x => cell_of_block (Later.at0 g1 x) rfl
  have f7 : ∀ x : Later W [], x.w.cell? ⟨w.heap.size + 1, 3, none⟩ = some (.int .i64 dy) := fun x => cell_of_block (Later.at0 g1 x) rfl
  repeat (refine walkT_step (fun K hK => ?_); go_simp; first | (refine hK _ _ ?_; clear hK K) | (refine ⟨_, fun x => line_any _ _ _ _ _, ?_⟩; refine hK _ _ ?_; clear hK K))
  refine walkT_nil ?_
  intro w1 hc
  replace g0 := hc.at0 g0
  replace g1 := hc.at0 g1
  replace hb := hb.trans (hc.below.mono hb.size)
  replace hz := Nat.le_trans hz hc.kept.size
  clear hc o3 f0 f1 f2 f3 f4 f5 f6 f7 W
  go_upto_region 3 with (fail)
  refine plain_hid (fun W hW ops hops => ?_)
  subst hW
  clear hops
  have f8 : ∀ x : Later W [], x.w.cell? ⟨w.heap.size, 0, none⟩ = some (.int .i64 ax) := fun x => cell_of_block (Later.at0 g0 x) rfl
  have f9 : ∀ x : Later W [], x.w.cell? ⟨w.heap.size, 1, none⟩ = some (.int .i64 ay) := fun x => cell_of_block (Later.at0 g0 x) rfl
  have f10 : ∀ x : Later W [], x.w.cell? ⟨w.heap.size, 2, none⟩ = some (.int .i64 bx) := fun x => cell_of_block (Later.at0 g0 x) rfl
  have f11 : ∀ x : Later W [], x.w.cell? ⟨w.heap.size, 3, none⟩ = some (.int .i64 by') := fun x => cell_of_block (Later.at0 g0 x) rfl
  have f12 : ∀ x : Later W [], x.w.cell? ⟨w.heap.size + 1, 0, none⟩ = some (.int .i64 cx) := fun x => cell_of_block (Later.at0 g1 x) rfl
  have f13 : ∀ x : Later W [], x.w.cell? ⟨w.heap.size + 1, 1, none⟩ = some (.int .i64 cy) := fun x => cell_of_block (Later.at0 g1 x) rfl
  have f14 : ∀ x : Later W [], x.w.cell? ⟨w.heap.size + 1, 2, none⟩ = some (.int .i64 dx) := fun x => cell_of_block (Later.at0 g1 x) rfl
  have f15 : ∀ x : Later W [], x.w.cell? ⟨w.heap.size + 1, 3, none⟩ = some (.int .i64 dy) := fun x => cell_of_block (Later.at0 g1 x) rfl
  repeat (refine walkT_step (fun K hK => ?_); go_simp; first | (refine hK _ _ ?_; clear hK K) | (refine ⟨_, fun x => box_any _ _ _ _ _, ?_⟩; refine hK _ _ ?_; clear hK K))
  refine walkT_step (fun K hK => ?_)
  go_simp
  refine ⟨_, fun _ => rfl, fun k5 hk5 nk5 => hK _ _ ?_⟩; clear hK K
  refine walkT_step (fun K hK => ?_)
  go_simp
  refine ⟨_, fun _ => rfl, fun k6 hk6 nk6 => hK _ _ ?_⟩; clear hK K
  have ne_k6_k5 : k6 ≠ k5 := fun e => by subst e; simp [Gh.set] at nk6
  have ne_k5_k6 : k5 ≠ k6 := Ne.symm ne_k6_k5
  clear nk5 nk6
  refine walkT_fill (k := k5) (ob := #[.int .i64 0, .int .i64 0]) (t := 23) (v := .agg #[.int .i64 (bminI ax ay bx by' (minI ax bx)), .int .i64 (bminI ax ay bx by' (minI ay by'))]) rfl rfl rfl rfl ((Gh.set_ne _ _ ne_k5_k6).trans (Gh.set_same _ _ _)) rfl (by kernel_rfl) rfl rfl ?_
  refine walkT_fill (k := k6) (ob := #[.int .i64 0, .int .i64 0]) (t := 23) (v := .agg #[.int .i64 (bminI ax ay bx by' (maxI ax bx)), .int .i64 (bminI ax ay bx by' (maxI ay by'))]) rfl rfl rfl rfl ((Gh.set_ne _ _ ne_k6_k5).trans (Gh.set_same _ _ _)) rfl (by kernel_rfl) rfl rfl ?_
  refine walkT_nil ?_
  intro w1 hc
  replace g0 := hc.at0 g0
  replace g1 := hc.at0 g1
  have g2 : w1.heap[k5]? = some (.cells #[.int .i64 (bminI ax ay bx by' (minI ax bx)), .int .i64 (bminI ax ay bx by' (minI ay by'))] 23) := (hc.own (k5) _ true ((Gh.set_ne _ _ ne_k5_k6).trans (Gh.set_same _ _ _))).2
  have g3 : w1.heap[k6]? = some (.cells #[.int .i64 (bminI ax ay bx by' (maxI ax bx)), .int .i64 (bminI ax ay bx by' (maxI ay by'))] 23) := (hc.own (k6) _ true (Gh.set_same _ _ _)).2
  replace hb := hb.trans (hc.below.mono hb.size)
  replace hk5 := Nat.le_trans hz hk5
  replace hk6 := Nat.le_trans hz hk6
  replace hz := Nat.le_trans hz hc.kept.size
  clear hc f8 f9 f10 f11 f12 f13 f14 f15 W
  go_upto_region 4 with (fail)
  refine plain_hid (fun W hW ops hops => ?_)
  subst hW
  clear hops
  have f16 : ∀ x : Later W [], x.w.cell? ⟨w.heap.size, 0, none⟩ = some (.int .i64 ax) := fun x => cell_of_block (Later.at0 g0 x) rfl
  have f17 : ∀ x : Later W [], x.w.cell? ⟨w.heap.size, 1, none⟩ = some (.int .i64 ay) := fun x => cell_of_block (Later.at0 g0 x) rfl
  have f18 : ∀ x : Later W [], x.w.cell? ⟨w.heap.size, 2, none⟩ = some (.int .i64 bx) := fun x => cell_of_block (Later.at0 g0 x) rfl
  have f19 : ∀ x : Later W [], x.w.cell? ⟨w.heap.size, 3, none⟩ = some (.int .i64 by') := fun x => cell_of_block (Later.at0 g0 x) rfl
  have f20 : ∀ x : Later W [], x.w.cell? ⟨w.heap.size + 1, 0, none⟩ = some (.int .i64 cx) := fun x => cell_of_block (Later.at0 g1 x) rfl
  have f21 : ∀ x : Later W [], x.w.cell? ⟨w.heap.size + 1, 1, none⟩ = some (.int .i64 cy) := fun x => cell_of_block (Later.at0 g1 x) rfl
  have f22 : ∀ x : Later W [], x.w.cell? ⟨w.heap.size + 1, 2, none⟩ = some (.int .i64 dx) := fun x => cell_of_block (Later.at0 g1 x) rfl
  have f23 : ∀ x : Later W [], x.w.cell? ⟨w.heap.size + 1, 3, none⟩ = some (.int .i64 dy) := fun x => cell_of_block (Later.at0 g1 x) rfl
  have f24 : ∀ x : Later W [], x.w.cell? ⟨k5, 0, none⟩ = some (.int .i64 (bminI ax ay bx by' (minI ax bx))) := fun x => cell_of_block (Later.at0 g2 x) rfl
  have f25 : ∀ x : Later W [], x.w.cell? ⟨k5, 1, none⟩ = some (.int .i64 (bminI ax ay bx by' (minI ay by'))) := fun x => cell_of_block (Later.at0 g2 x) rfl
  have f26 : ∀ x : Later W [], x.w.cell? ⟨k6, 0, none⟩ = some (.int .i64 (bminI ax ay bx by' (maxI ax bx))) := fun x => cell_of_block (Later.at0 g3 x) rfl
  have f27 : ∀ x : Later W [], x.w.cell? ⟨k6, 1, none⟩ = some (.int .i64 (bminI ax ay bx by' (maxI ay by'))) := fun x => cell_of_block (Later.at0 g3 x) rfl
  repeat (refine walkT_step (fun K hK => ?_); go_simp; first | (refine hK _ _ ?_; clear hK K) | (refine ⟨_, fun x => box_any _ _ _ _ _, ?_⟩; refine hK _ _ ?_; clear hK K))
  refine walkT_step (fun K hK => ?_)
  go_simp
  refine ⟨_, fun _ => rfl, fun k7 hk7 nk7 => hK _ _ ?_⟩; clear hK K
  refine walkT_step (fun K hK => ?_)
  go_simp
  refine ⟨_, fun _ => rfl, fun k8 hk8 nk8 => hK _ _ ?_⟩; clear hK K
  have ne_k8_k7 : k8 ≠ k7 := fun e => by subst e; simp [Gh.set] at nk8
  have ne_k7_k8 : k7 ≠ k8 := Ne.symm ne_k8_k7
  clear nk7 nk8
  refine walkT_fill (k := k7) (ob := #[.int .i64 0, .int .i64 0]) (t := 23) (v := .agg #[.int .i64 (bminI cx cy dx dy (minI cx dx)), .int .i64 (bminI cx cy dx dy (minI cy dy))]) rfl rfl rfl rfl ((Gh.set_ne _ _ ne_k7_k8).trans (Gh.set_same _ _ _)) rfl (by kernel_rfl) rfl rfl ?_
  refine walkT_fill (k := k8) (ob := #[.int .i64 0, .int .i64 0]) (t := 23) (v := .agg #[.int .i64 (bminI cx cy dx dy (maxI cx dx)), .int .i64 (bminI cx cy dx dy (maxI cy dy))]) rfl rfl rfl rfl ((Gh.set_ne _ _ ne_k8_k7).trans (Gh.set_same _ _ _)) rfl (by kernel_rfl) rfl rfl ?_
  refine walkT_nil ?_
  intro w1 hc
  replace g0 := hc.at0 g0
  replace g1 := hc.at0 g1
  replace g2 := hc.at0 g2
  replace g3 := hc.at0 g3
  have g4 : w1.heap[k7]? = some (.cells #[.int .i64 (bminI cx cy dx dy (minI cx dx)), .int .i64 (bminI cx cy dx dy (minI cy dy))] 23) := (hc.own (k7) _ true ((Gh.set_ne _ _ ne_k7_k8).trans (Gh.set_same _ _ _))).2
  have g5 : w1.heap[k8]? = some (.cells #[.int .i64 (bminI cx cy dx dy (maxI cx dx)), .int .i64 (bminI cx cy dx dy (maxI cy dy))] 23) := (hc.own (k8) _ true (Gh.set_same _ _ _)).2
  replace hb := hb.trans (hc.below.mono hb.size)
  replace hk7 := Nat.le_trans hz hk7
  replace hk8 := Nat.le_trans hz hk8
  replace hz := Nat.le_trans hz hc.kept.size
  clear hc f16 f17 f18 f19 f20 f21 f22 f23 f24 f25 f26 f27 W
  go_upto_region 5 with (fail)
  refine plain_hid (fun W hW ops hops => ?_)
  subst hW
  have o5 : (ops[5]?).bind (fun x => x.dst) = some 32 := by rw [hops]; rfl
  have o12 : (ops[12]?).bind (fun x => x.dst) = some 39 := by rw [hops]; rfl
  have o19 : (ops[19]?).bind (fun x => x.dst) = some 46 := by rw [hops]; rfl
  clear hops
  have f28 : ∀ x : Later W [], x.w.cell? ⟨w.heap.size, 0, none⟩ = some (.int .i64 ax) := fun x => cell_of_block (Later.at0 g0 x) rfl
  have f29 : ∀ x : Later W [], x.w.cell? ⟨w.heap.size, 1, none⟩ = some (.int .i64 ay) := fun x => cell_of_block (Later.at0 g0 x) rfl
  have f30 : ∀ x : Later W [], x.w.cell? ⟨w.heap.size, 2, none⟩ = some (.int .i64 bx) := fun x => cell_of_block (Later.at0 g0 x) rfl
  have f31 : ∀ x : Later W [], x.w.cell? ⟨w.heap.size, 3, none⟩ = some (.int .i64 by') := fun x => cell_of_block (Later.at0 g0 x) rfl
  have f32 : ∀ x : Later W [], x.w.cell? ⟨w.heap.size + 1, 0, none⟩ = some (.int .i64 cx) := fun x => cell_of_block (Later.at0 g1 x) rfl
  have f33 : ∀ x : Later W [], x.w.cell? ⟨w.heap.size + 1, 1, none⟩ = some (.int .i64 cy) := fun x => cell_of_block (Later.at0 g1 x) rfl
  have f34 : ∀ x : Later W [], x.w.cell? ⟨w.heap.size + 1, 2, none⟩ = some (.int .i64 dx) := fun x => cell_of_block (Later.at0 g1 x) rfl
  have f35 : ∀ x : Later W [], x.w.cell? ⟨w.heap.size + 1, 3, none⟩ = some (.int .i64 dy) := fun x => cell_of_block (Later.at0 g1 x) rfl
  have f36 : ∀ x : Later W [], x.w.cell? ⟨k5, 0, none⟩ = some (.int .i64 (bminI ax ay bx by' (minI ax bx))) := fun x => cell_of_block (Later.at0 g2 x) rfl
  have f37 : ∀ x : Later W [], x.w.cell? ⟨k5, 1, none⟩ = some (.int .i64 (bminI ax ay bx by' (minI ay by'))) := fun x => cell_of_block (Later.at0 g2 x) rfl
  have f38 : ∀ x : Later W [], x.w.cell? ⟨k6, 0, none⟩ = some (.int .i64 (bminI ax ay bx by' (maxI ax bx))) := fun x => cell_of_block (Later.at0 g3 x) rfl
  have f39 : ∀ x : Later W [], x.w.cell? ⟨k6, 1, none⟩ = some (.int .i64 (bminI ax ay bx by' (maxI ay by'))) := fun x => cell_of_block (Later.at0 g3 x) rfl
  have f40 : ∀ x : Later W [], x.w.cell? ⟨k7, 0, none⟩ = some (.int .i64 (bminI cx cy dx dy (minI cx dx))) := fun x => cell_of_block (Later.at0 g4 x) rfl
  have f41 : ∀ x : Later W [], x.w.cell? ⟨k7, 1, none⟩ = some (.int .i64 (bminI cx cy dx dy (minI cy dy))) := fun x => cell_of_block (Later.at0 g4 x) rfl
  have f42 : ∀ x : Later W [], x.w.cell? ⟨k8, 0, none⟩ = some (.int .i64 (bminI cx cy dx dy (maxI cx dx))) := fun x => cell_of_block (Later.at0 g5 x) rfl
  have f43 : ∀ x : Later W [], x.w.cell? ⟨k8, 1, none⟩ = some (.int .i64 (bminI cx cy dx dy (maxI cy dy))) := fun x => cell_of_block (Later.at0 g5 x) rfl
  have e1 : bminI ax ay bx by' (minI ax bx) = minI ax bx := if_pos h1
  have e2 : bminI ax ay bx by' (minI ay by') = minI ay by' := if_pos h1
  have e3 : bminI ax ay bx by' (maxI ax bx) = maxI ax bx := if_pos h1
  have e4 : bminI ax ay bx by' (maxI ay by') = maxI ay by' := if_pos h1
  have e5 : bminI cx cy dx dy (minI cx dx) = minI cx dx := if_pos h2
  have e6 : bminI cx cy dx dy (minI cy dy) = minI cy dy := if_pos h2
  have e7 : bminI cx cy dx dy (maxI cx dx) = maxI cx dx := if_pos h2
  have e8 : bminI cx cy dx dy (maxI cy dy) = maxI cy dy := if_pos h2
  cases c1 : decide (maxI ax bx < minI cx dx) <;> cases c2 : decide (maxI cx dx < minI ax bx) <;> cases c3 : decide (maxI ay by' < minI cy dy)
  all_goals
    have c1' := c1
    have c2' := c2
    have c3' := c3
    simp only [decide_eq_true_eq, decide_eq_false_iff_not] at c1' c2' c3'
    repeat (refine walkT_step (fun K hK => ?_); go_simp; first | (refine hK _ _ ?_; clear hK K))
    refine walkT_nil ?_
    intro w2 hc
    replace g0 := hc.at0 g0
    replace g1 := hc.at0 g1
    replace g2 := hc.at0 g2
    replace g3 := hc.at0 g3
    replace g4 := hc.at0 g4
    replace g5 := hc.at0 g5
    replace hb := hb.trans (hc.below.mono hb.size)
    replace hz := Nat.le_trans hz hc.kept.size
    clear hc o5 o12 o19 f28 f29 f30 f31 f32 f33 f34 f35 f36 f37 f38 f39 f40 f41 f42 f43 W
    go_wp2
    go_ret
    exact ⟨ret_bool (by first | rfl | (rw [c1] <;> rfl) | (rw [c1, c2] <;> rfl) | (rw [c1, c2, c3] <;> rfl)), hb⟩

theorem apart_any (ax ay bx by' cx cy dx dy : Int) (w : World) : Calls Try.prog 24 #[.agg #[.int .i64 ax, .int .i64 ay, .int .i64 bx, .int .i64 by'], .agg #[.int .i64 cx, .int .i64 cy, .int .i64 dx, .int .i64 dy]] w fun e w' => e = .returned (.bool (apartB ax ay bx by' cx cy dx dy)) ∧ Below w.heap.size w w' := by
  have hl : apartB ax ay bx by' cx cy dx dy = (lineB ax ay bx by' && lineB cx cy dx dy && (decide (maxI ax bx < minI cx dx) || decide (maxI cx dx < minI ax bx) || decide (maxI ay by' < minI cy dy) || decide (maxI cy dy < minI ay by'))) := rfl
  cases h : (lineB ax ay bx by' && lineB cx cy dx dy)
  · rw [hl, h]; exact apart_no ax ay bx by' cx cy dx dy w h
  · rw [hl, h]
    rw [Bool.and_eq_true] at h
    exact apart_yes ax ay bx by' cx cy dx dy w h.1 h.2

end Go.Proofs.Ytcpjgcpclekjkaa
