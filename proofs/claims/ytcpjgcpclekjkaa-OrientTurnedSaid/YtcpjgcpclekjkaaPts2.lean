/-
  MORE WALKS OVER POINTS. CONDITIONS: none.
-/
import Derived.Test.YtcpjgcpclekjkaaPts
namespace Go.Proofs.Ytcpjgcpclekjkaa
open Go.RowKit Go.Proofs.Ytcpjgcpclekjkaa.Tame
set_option maxHeartbeats 400000


theorem less_no (ax ay bx by' : Int) (w : World) (h : (mayB ax ay && mayB bx by') = false) : Calls Try.prog 20 #[.agg #[.int .i64 ax, .int .i64 ay], .agg #[.int .i64 bx, .int .i64 by']] w fun e w' => e = .returned (.bool false) ∧ Below w.heap.size w w' := by
  cases h1 : mayB ax ay <;> cases h2 : mayB bx by' <;> rw [h1, h2] at h <;> first | (exfalso; revert h; decide) | skip
  all_goals
    clear h
    go_enter Try.func20, Try.ntmps20
    go_upto_region 1 with (fail)
    refine plain_hid (fun W hW ops hops => ?_)
    have hb : Below w.heap.size w W := by rw [hW]; go_grown
    have hz : w.heap.size + 2 ≤ W.heap.size := by rw [hW]; simp
    have g0 : W.heap[w.heap.size]? = some (.cells #[.int .i64 ax, .int .i64 ay] 23) := by rw [hW]; exact heap_alloc_lt (heap_alloc_is (rfl))
    have g1 : W.heap[w.heap.size + 1]? = some (.cells #[.int .i64 bx, .int .i64 by'] 23) := by rw [hW]; exact heap_alloc_is (by simp)
    clear hW
    have o2 : (ops[2]?).bind (fun x => x.dst) = some 7 := by rw [hops]; rfl
    have o6 : (ops[6]?).bind (fun x => x.dst) = some 11 := by rw [hops]; rfl
    have o12 : (ops[12]?).bind (fun x => x.dst) = some 17 := by rw [hops]; rfl
    have o18 : (ops[18]?).bind (fun x => x.dst) = some 23 := by rw [hops]; rfl
    clear hops
    have f0 : ∀ x : Later W [], x.w.cell? ⟨w.heap.size, 0, none⟩ = some (.int .i64 ax) := fun x => cell_of_block (Later.at0 g0 x) rfl
    have f1 : ∀ x : Later W [], x.w.cell? ⟨w.heap.size, 1, none⟩ = some (.int .i64 ay) := fun x => cell_of_block (Later.at0 g0 x) rfl
    have f2 : ∀ x : Later W [], x.w.cell? ⟨w.heap.size + 1, 0, none⟩ = some (.int .i64 bx) := fun x => cell_of_block (Later.at0 g1 x) rfl
    have f3 : ∀ x : Later W [], x.w.cell? ⟨w.heap.size + 1, 1, none⟩ = some (.int .i64 by') := fun x => cell_of_block (Later.at0 g1 x) rfl
    repeat (refine walkT_step (fun K hK => ?_); go_simp; first | (refine hK _ _ ?_; clear hK K) | (refine ⟨_, fun x => may_any _ _ _, ?_⟩; refine hK _ _ ?_; clear hK K))
    refine walkT_nil ?_
    intro w1 hc
    replace g0 := hc.at0 g0
    replace g1 := hc.at0 g1
    replace hb := hb.trans (hc.below.mono hb.size)
    replace hz := Nat.le_trans hz hc.kept.size
    clear hc o2 o6 o12 o18 f0 f1 f2 f3 W
    go_wp2
    go_ret
    exact ⟨rfl, hb⟩


theorem less_yes (ax ay bx by' : Int) (w : World) (h1 : mayB ax ay = true) (h2 : mayB bx by' = true) : Calls Try.prog 20 #[.agg #[.int .i64 ax, .int .i64 ay], .agg #[.int .i64 bx, .int .i64 by']] w fun e w' => e = .returned (.bool (decide (ax < bx) || (ax == bx && decide (ay < by')))) ∧ Below w.heap.size w w' := by
  cases h3 : decide (ax < bx) <;> cases h4 : (ax == bx)
  all_goals
    have h3' := h3
    simp only [decide_eq_true_eq, decide_eq_false_iff_not] at h3'
    go_enter Try.func20, Try.ntmps20
    go_upto_region 1 with (fail)
    refine plain_hid (fun W hW ops hops => ?_)
    have hb : Below w.heap.size w W := by rw [hW]; go_grown
    have hz : w.heap.size + 2 ≤ W.heap.size := by rw [hW]; simp
    have g0 : W.heap[w.heap.size]? = some (.cells #[.int .i64 ax, .int .i64 ay] 23) := by rw [hW]; exact heap_alloc_lt (heap_alloc_is (rfl))
    have g1 : W.heap[w.heap.size + 1]? = some (.cells #[.int .i64 bx, .int .i64 by'] 23) := by rw [hW]; exact heap_alloc_is (by simp)
    clear hW
    have o2 : (ops[2]?).bind (fun x => x.dst) = some 7 := by rw [hops]; rfl
    have o6 : (ops[6]?).bind (fun x => x.dst) = some 11 := by rw [hops]; rfl
    have o12 : (ops[12]?).bind (fun x => x.dst) = some 17 := by rw [hops]; rfl
    have o18 : (ops[18]?).bind (fun x => x.dst) = some 23 := by rw [hops]; rfl
    clear hops
    have f0 : ∀ x : Later W [], x.w.cell? ⟨w.heap.size, 0, none⟩ = some (.int .i64 ax) := fun x => cell_of_block (Later.at0 g0 x) rfl
    have f1 : ∀ x : Later W [], x.w.cell? ⟨w.heap.size, 1, none⟩ = some (.int .i64 ay) := fun x => cell_of_block (Later.at0 g0 x) rfl
    have f2 : ∀ x : Later W [], x.w.cell? ⟨w.heap.size + 1, 0, none⟩ = some (.int .i64 bx) := fun x => cell_of_block (Later.at0 g1 x) rfl
    have f3 : ∀ x : Later W [], x.w.cell? ⟨w.heap.size + 1, 1, none⟩ = some (.int .i64 by') := fun x => cell_of_block (Later.at0 g1 x) rfl
    repeat (refine walkT_step (fun K hK => ?_); go_simp; first | (refine hK _ _ ?_; clear hK K) | (refine ⟨_, fun x => may_any _ _ _, ?_⟩; refine hK _ _ ?_; clear hK K))
    refine walkT_nil ?_
    intro w1 hc
    replace g0 := hc.at0 g0
    replace g1 := hc.at0 g1
    replace hb := hb.trans (hc.below.mono hb.size)
    replace hz := Nat.le_trans hz hc.kept.size
    clear hc o2 o6 o12 o18 f0 f1 f2 f3 W
    go_wp2
    go_ret
    exact ⟨rfl, hb⟩

theorem less_any (ax ay bx by' : Int) (w : World) : Calls Try.prog 20 #[.agg #[.int .i64 ax, .int .i64 ay], .agg #[.int .i64 bx, .int .i64 by']] w fun e w' => e = .returned (.bool (lessB ax ay bx by')) ∧ Below w.heap.size w w' := by
  have hl : lessB ax ay bx by' = (mayB ax ay && mayB bx by' && (decide (ax < bx) || (ax == bx && decide (ay < by')))) := rfl
  cases h : (mayB ax ay && mayB bx by')
  · rw [hl, h]; exact less_no ax ay bx by' w h
  · rw [hl, h]
    rw [Bool.and_eq_true] at h
    exact less_yes ax ay bx by' w h.1 h.2

end Go.Proofs.Ytcpjgcpclekjkaa
