/-
  WALKS OVER LINES: which lines there may be, their boxes, which boxes are apart. CONDITIONS: none.
-/
import Derived.Test.YtcpjgcpclekjkaaPlain
namespace Go.Proofs.Ytcpjgcpclekjkaa
open Go.RowKit Go.Proofs.Ytcpjgcpclekjkaa.Tame
set_option maxHeartbeats 400000

/-- May a line be? -/
def lineB (ax ay bx by' : Int) : Bool := mayB ax ay && mayB bx by' && (!decide (ax = bx) || !decide (ay = by'))
def minI (a b : Int) : Int := if b < a then b else a
def maxI (a b : Int) : Int := if a < b then b else a


theorem line_any (ax ay bx by' : Int) (w : World) : Calls Try.prog 23 #[.agg #[.int .i64 ax, .int .i64 ay, .int .i64 bx, .int .i64 by']] w fun e w' => e = .returned (.bool (lineB ax ay bx by')) ∧ Below w.heap.size w w' := by
  have hl : lineB ax ay bx by' = (mayB ax ay && mayB bx by' && (!decide (ax = bx) || !decide (ay = by'))) := rfl
  rw [hl]; clear hl
  cases h1 : mayB ax ay <;> cases h2 : mayB bx by'
  all_goals
    go_enter Try.func23, Try.ntmps23
    go_upto_region 1 with (fail)
    refine plain_hid (fun W hW ops hops => ?_)
    have hb : Below w.heap.size w W := by rw [hW]; go_grown
    have hz : w.heap.size + 1 ≤ W.heap.size := by rw [hW]; simp
    have g0 : W.heap[w.heap.size]? = some (.cells #[.int .i64 ax, .int .i64 ay, .int .i64 bx, .int .i64 by'] 34) := by rw [hW]; exact heap_alloc_is (rfl)
    clear hW
    have o3 : (ops[3]?).bind (fun x => x.dst) = some 6 := by rw [hops]; rfl
    have o8 : (ops[8]?).bind (fun x => x.dst) = some 11 := by rw [hops]; rfl
    clear hops
    have f0 : ∀ x : Later W [], x.w.cell? ⟨w.heap.size, 0, none⟩ = some (.int .i64 ax) := fun x => cell_of_block (Later.at0 g0 x) rfl
    have f1 : ∀ x : Later W [], x.w.cell? ⟨w.heap.size, 1, none⟩ = some (.int .i64 ay) := fun x => cell_of_block (Later.at0 g0 x) rfl
    have f2 : ∀ x : Later W [], x.w.cell? ⟨w.heap.size, 2, none⟩ = some (.int .i64 bx) := fun x => cell_of_block (Later.at0 g0 x) rfl
    have f3 : ∀ x : Later W [], x.w.cell? ⟨w.heap.size, 3, none⟩ = some (.int .i64 by') := fun x => cell_of_block (Later.at0 g0 x) rfl
    repeat (refine walkT_step (fun K hK => ?_); go_simp; first | (refine hK _ _ ?_; clear hK K) | (refine ⟨_, fun x => calm_ne2, ?_⟩; refine hK _ _ ?_; clear hK K) | (refine ⟨_, fun x => may_any _ _ _, ?_⟩; refine hK _ _ ?_; clear hK K))
    refine walkT_nil ?_
    intro w1 hc
    replace g0 := hc.at0 g0
    replace hb := hb.trans (hc.below.mono hb.size)
    replace hz := Nat.le_trans hz hc.kept.size
    clear hc o3 o8 f0 f1 f2 f3 W
    go_wp2
    go_ret
    exact ⟨rfl, hb⟩


theorem refline_any (ax ay bx by' : Int) (w : World) : Calls Try.prog 22 #[.agg #[.int .i64 ax, .int .i64 ay, .int .i64 bx, .int .i64 by']] w fun e w' => e = .returned (.bool (lineB ax ay bx by')) ∧ Below w.heap.size w w' := by
  have hl : lineB ax ay bx by' = (mayB ax ay && mayB bx by' && (!decide (ax = bx) || !decide (ay = by'))) := rfl
  rw [hl]; clear hl
  cases h1 : mayB ax ay <;> cases h2 : mayB bx by'
  all_goals
    go_enter Try.func22, Try.ntmps22
    go_upto_region 1 with (fail)
    refine plain_hid (fun W hW ops hops => ?_)
    have hb : Below w.heap.size w W := by rw [hW]; go_grown
    have hz : w.heap.size + 1 ≤ W.heap.size := by rw [hW]; simp
    have g0 : W.heap[w.heap.size]? = some (.cells #[.int .i64 ax, .int .i64 ay, .int .i64 bx, .int .i64 by'] 34) := by rw [hW]; exact heap_alloc_is (rfl)
    clear hW
    have o3 : (ops[3]?).bind (fun x => x.dst) = some 6 := by rw [hops]; rfl
    have o8 : (ops[8]?).bind (fun x => x.dst) = some 11 := by rw [hops]; rfl
    clear hops
    have f0 : ∀ x : Later W [], x.w.cell? ⟨w.heap.size, 0, none⟩ = some (.int .i64 ax) := fun x => cell_of_block (Later.at0 g0 x) rfl
    have f1 : ∀ x : Later W [], x.w.cell? ⟨w.heap.size, 1, none⟩ = some (.int .i64 ay) := fun x => cell_of_block (Later.at0 g0 x) rfl
    have f2 : ∀ x : Later W [], x.w.cell? ⟨w.heap.size, 2, none⟩ = some (.int .i64 bx) := fun x => cell_of_block (Later.at0 g0 x) rfl
    have f3 : ∀ x : Later W [], x.w.cell? ⟨w.heap.size, 3, none⟩ = some (.int .i64 by') := fun x => cell_of_block (Later.at0 g0 x) rfl
    repeat (refine walkT_step (fun K hK => ?_); go_simp; first | (refine hK _ _ ?_; clear hK K) | (refine ⟨_, fun x => calm_ne2, ?_⟩; refine hK _ _ ?_; clear hK K) | (refine ⟨_, fun x => refmay_any _ _ _, ?_⟩; refine hK _ _ ?_; clear hK K))
    refine walkT_nil ?_
    intro w1 hc
    replace g0 := hc.at0 g0
    replace hb := hb.trans (hc.below.mono hb.size)
    replace hz := Nat.le_trans hz hc.kept.size
    clear hc o3 o8 f0 f1 f2 f3 W
    go_wp2
    go_ret
    exact ⟨rfl, hb⟩


theorem less_int (a b : Int) (w : World) : Calls Try.prog 42 #[.int .i64 a, .int .i64 b] w fun e w' => e = .returned (.int .i64 (minI a b)) ∧ Below w.heap.size w w' := by
  by_cases h : a < b
  · rw [show minI a b = a by unfold minI; rw [if_neg (by omega)]]
    go_enter Try.func42, Try.ntmps42
    go_wp2
    go_ret
    exact ⟨rfl, Below.refl _ _⟩
  · rw [show minI a b = b by unfold minI; split <;> omega]
    go_enter Try.func42, Try.ntmps42
    go_wp2
    go_ret
    exact ⟨rfl, Below.refl _ _⟩


theorem low_any (ax ay bx by' : Int) (w : World) : Calls Try.prog 25 #[.agg #[.int .i64 ax, .int .i64 ay, .int .i64 bx, .int .i64 by']] w fun e w' => e = .returned (.agg #[.int .i64 (minI ax bx), .int .i64 (minI ay by')]) ∧ Below w.heap.size w w' := by
  go_enter Try.func25, Try.ntmps25
  go_upto_region 1 with (fail)
  refine draws_var (d := w.heap.size + 1) (heap_alloc_is (by simp)) (by kernel_rfl) (by kernel_rfl) (by kernel_rfl) (fun W hW ops hops => ?_)
  have hb : Below w.heap.size w W := by rw [hW]; go_grown
  have hz : w.heap.size + 2 ≤ W.heap.size := by rw [hW]; simp
  have g0 : W.heap[w.heap.size]? = some (.cells #[.int .i64 ax, .int .i64 ay, .int .i64 bx, .int .i64 by'] 34) := by rw [hW]; exact heap_alloc_lt (heap_alloc_is (rfl))
  have g1 : W.heap[w.heap.size + 1]? = some (.cells #[.int .i64 0, .int .i64 0] 23) := by rw [hW]; exact heap_alloc_is (by simp)
  clear hW
  clear hops
  have f0 : ∀ x : Later W [w.heap.size + 1], x.w.cell? ⟨w.heap.size, 0, none⟩ = some (.int .i64 ax) := fun x => cell_of_block (Later.at g0 (not_mem1 (by omega)) x) rfl
  have f1 : ∀ x : Later W [w.heap.size + 1], x.w.cell? ⟨w.heap.size, 1, none⟩ = some (.int .i64 ay) := fun x => cell_of_block (Later.at g0 (not_mem1 (by omega)) x) rfl
  have f2 : ∀ x : Later W [w.heap.size + 1], x.w.cell? ⟨w.heap.size, 2, none⟩ = some (.int .i64 bx) := fun x => cell_of_block (Later.at g0 (not_mem1 (by omega)) x) rfl
  have f3 : ∀ x : Later W [w.heap.size + 1], x.w.cell? ⟨w.heap.size, 3, none⟩ = some (.int .i64 by') := fun x => cell_of_block (Later.at g0 (not_mem1 (by omega)) x) rfl
  repeat (refine walkT_step (fun K hK => ?_); go_simp; first | (refine hK _ _ ?_; clear hK K) | (refine ⟨_, fun x => less_int _ _ _, ?_⟩; refine hK _ _ ?_; clear hK K))
  refine walkT_fill (k := w.heap.size + 1) (ob := #[.int .i64 0, .int .i64 0]) (t := 23) (v := .agg #[.int .i64 (minI ax bx), .int .i64 (minI ay by')]) rfl rfl rfl rfl (Gh.set_same _ _ _) rfl (by kernel_rfl) rfl rfl ?_
  refine walkT_nil ?_
  intro w1 hc
  replace g0 := hc.at g0 (not_mem1 (by omega))
  replace g1 : w1.heap[w.heap.size + 1]? = some (.cells #[.int .i64 (minI ax bx), .int .i64 (minI ay by')] 23) := (hc.own (w.heap.size + 1) _ true (Gh.set_same _ _ _)).2
  replace hb := hb.trans (hc.kept.below hb.size (fun d hd => by rw [List.mem_singleton.1 hd]; omega))
  replace hz := Nat.le_trans hz hc.kept.size
  clear hc f0 f1 f2 f3 W
  go_wp2
  have r4 : w1.cell? ⟨w.heap.size + 1, 0, none⟩ = some (.int .i64 (minI ax bx)) := cell_of_block g1 rfl
  have r5 : w1.cell? ⟨w.heap.size + 1, 1, none⟩ = some (.int .i64 (minI ay by')) := cell_of_block g1 rfl
  exact bodyPost_ret (v := .agg #[.int .i64 (minI ax bx), .int .i64 (minI ay by')]) (by simp [results, Try.results25, go_sem, r4, r5]) rfl ⟨rfl, hb⟩


theorem max_neg (a b : Int) (ha : okI a) (hb : okI b) : IntKind.i64.wrap (-minI (-a) (-b)) = maxI a b := by
  unfold okI at ha hb
  unfold minI maxI
  rw [IntWalk.i64_in _ (by split <;> omega)]
  split <;> split <;> omega
theorem neg_in (a : Int) (ha : okI a) : IntKind.i64.wrap (-a) = -a := by
  unfold okI at ha
  exact IntWalk.i64_in _ (by omega)
theorem high_ok (ax ay bx by' : Int) (w : World) (p1 : okI ax) (p2 : okI ay) (p3 : okI bx) (p4 : okI by') : Calls Try.prog 26 #[.agg #[.int .i64 ax, .int .i64 ay, .int .i64 bx, .int .i64 by']] w fun e w' => e = .returned (.agg #[.int .i64 (maxI ax bx), .int .i64 (maxI ay by')]) ∧ Below w.heap.size w w' := by
  have n1 := neg_in ax p1
  have n2 := neg_in ay p2
  have n3 := neg_in bx p3
  have n4 := neg_in by' p4
  have m1 := max_neg ax bx p1 p3
  have m2 := max_neg ay by' p2 p4
  go_enter Try.func26, Try.ntmps26
  go_upto_region 1 with (fail)
  refine draws_var (d := w.heap.size + 1) (heap_alloc_is (by simp)) (by kernel_rfl) (by kernel_rfl) (by kernel_rfl) (fun W hW ops hops => ?_)
  have hb : Below w.heap.size w W := by rw [hW]; go_grown
  have hz : w.heap.size + 2 ≤ W.heap.size := by rw [hW]; simp
  have g0 : W.heap[w.heap.size]? = some (.cells #[.int .i64 ax, .int .i64 ay, .int .i64 bx, .int .i64 by'] 34) := by rw [hW]; exact heap_alloc_lt (heap_alloc_is (rfl))
  have g1 : W.heap[w.heap.size + 1]? = some (.cells #[.int .i64 0, .int .i64 0] 23) := by rw [hW]; exact heap_alloc_is (by simp)
  clear hW
  clear hops
  have f0 : ∀ x : Later W [w.heap.size + 1], x.w.cell? ⟨w.heap.size, 0, none⟩ = some (.int .i64 ax) := fun x => cell_of_block (Later.at g0 (not_mem1 (by omega)) x) rfl
  have f1 : ∀ x : Later W [w.heap.size + 1], x.w.cell? ⟨w.heap.size, 1, none⟩ = some (.int .i64 ay) := fun x => cell_of_block (Later.at g0 (not_mem1 (by omega)) x) rfl
  have f2 : ∀ x : Later W [w.heap.size + 1], x.w.cell? ⟨w.heap.size, 2, none⟩ = some (.int .i64 bx) := fun x => cell_of_block (Later.at g0 (not_mem1 (by omega)) x) rfl
  have f3 : ∀ x : Later W [w.heap.size + 1], x.w.cell? ⟨w.heap.size, 3, none⟩ = some (.int .i64 by') := fun x => cell_of_block (Later.at g0 (not_mem1 (by omega)) x) rfl
  repeat (refine walkT_step (fun K hK => ?_); go_simp; first | (refine hK _ _ ?_; clear hK K) | (refine ⟨_, fun x => less_int _ _ _, ?_⟩; refine hK _ _ ?_; clear hK K))
  refine walkT_fill (k := w.heap.size + 1) (ob := #[.int .i64 0, .int .i64 0]) (t := 23) (v := .agg #[.int .i64 (maxI ax bx), .int .i64 (maxI ay by')]) rfl rfl rfl rfl (Gh.set_same _ _ _) rfl (by kernel_rfl) rfl rfl ?_
  refine walkT_nil ?_
  intro w1 hc
  replace g0 := hc.at g0 (not_mem1 (by omega))
  replace g1 : w1.heap[w.heap.size + 1]? = some (.cells #[.int .i64 (maxI ax bx), .int .i64 (maxI ay by')] 23) := (hc.own (w.heap.size + 1) _ true (Gh.set_same _ _ _)).2
  replace hb := hb.trans (hc.kept.below hb.size (fun d hd => by rw [List.mem_singleton.1 hd]; omega))
  replace hz := Nat.le_trans hz hc.kept.size
  clear hc f0 f1 f2 f3 W
  go_wp2
  have r4 : w1.cell? ⟨w.heap.size + 1, 0, none⟩ = some (.int .i64 (maxI ax bx)) := cell_of_block g1 rfl
  have r5 : w1.cell? ⟨w.heap.size + 1, 1, none⟩ = some (.int .i64 (maxI ay by')) := cell_of_block g1 rfl
  exact bodyPost_ret (v := .agg #[.int .i64 (maxI ax bx), .int .i64 (maxI ay by')]) (by simp [results, Try.results26, go_sem, r4, r5]) rfl ⟨rfl, hb⟩

end Go.Proofs.Ytcpjgcpclekjkaa
