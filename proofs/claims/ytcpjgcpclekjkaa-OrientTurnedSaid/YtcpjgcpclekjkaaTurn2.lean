/-
  WALKS OF TURNING, GONE ON: the document's own turning; points that may not be; the square's awake. CONDITIONS: none.
-/
import Derived.Test.YtcpjgcpclekjkaaTurn
namespace Go.Proofs.Ytcpjgcpclekjkaa
open Go.RowKit Go.Proofs.Ytcpjgcpclekjkaa.Tame
set_option maxHeartbeats 400000

theorem rem_four (q : Int) : (wrap64 (q.tmod 4 + 4)).tmod 4 = q % 4 := by
  have h := Int.tmod_eq_emod (a := q) (b := 4)
  have e : wrap64 (q.tmod 4 + 4) = q.tmod 4 + 4 := IntWalk.wrap64_in _ (by rw [h]; split <;> constructor <;> (try simp) <;> omega)
  rw [e]
  rw [Int.tmod_eq_emod_of_nonneg (by rw [h]; split <;> (try simp) <;> omega), h]
  split <;> (try simp) <;> omega


theorem refturned_zero (ax ay q : Int) (w : World) (h : mayB ax ay = true) (hq : q % 4 = 0) :
    Calls Try.prog 11 #[.agg #[.int .i64 ax, .int .i64 ay], .int .i64 q] w fun e w' => e = .returned (.agg #[.int .i64 ax, .int .i64 ay]) ∧ Below w.heap.size w w' := by
  obtain ⟨q1, q2⟩ := mayB_x h
  obtain ⟨q3, q4⟩ := mayB_y h
  have hq := (rem_four q).trans hq
  go_enter Try.func11, Try.ntmps11
  go_upto_region 1 with (fail)
  refine plain_hid (fun W hW ops hops => ?_)
  have hb : Below w.heap.size w W := by rw [hW]; go_grown
  have hz : w.heap.size + 2 ≤ W.heap.size := by rw [hW]; simp
  have g0 : W.heap[w.heap.size]? = some (.cells #[.int .i64 ax, .int .i64 ay] 23) := by rw [hW]; exact heap_alloc_lt (heap_alloc_is (rfl))
  have g1 : W.heap[w.heap.size + 1]? = some (.cells #[.int .i64 0, .int .i64 0] 23) := by rw [hW]; exact heap_alloc_is (by simp)
  clear hW
  clear hops
  have f0 : ∀ x : Later W [], x.w.cell? ⟨w.heap.size, 0, none⟩ = some (.int .i64 ax) := fun x => cell_of_block (Later.at0 g0 x) rfl
  have f1 : ∀ x : Later W [], x.w.cell? ⟨w.heap.size, 1, none⟩ = some (.int .i64 ay) := fun x => cell_of_block (Later.at0 g0 x) rfl
  have f2 : ∀ x : Later W [], x.w.cell? ⟨w.heap.size + 1, 0, none⟩ = some (.int .i64 0) := fun x => cell_of_block (Later.at0 g1 x) rfl
  have f3 : ∀ x : Later W [], x.w.cell? ⟨w.heap.size + 1, 1, none⟩ = some (.int .i64 0) := fun x => cell_of_block (Later.at0 g1 x) rfl
  repeat (refine walkT_step (fun K hK => ?_); go_simp; first | (refine hK _ _ ?_; clear hK K) | (refine ⟨_, fun x => refmay_any _ _ _, ?_⟩; refine hK _ _ ?_; clear hK K))
  refine walkT_nil ?_
  intro w1 hc
  replace g0 := hc.at0 g0
  replace g1 := hc.at0 g1
  replace hb := hb.trans (hc.below.mono hb.size)
  replace hz := Nat.le_trans hz hc.kept.size
  clear hc f0 f1 f2 f3 W
  have f4 : w1.cell? ⟨w.heap.size, 0, none⟩ = some (.int .i64 ax) := cell_of_block g0 rfl
  have f5 : w1.cell? ⟨w.heap.size, 1, none⟩ = some (.int .i64 ay) := cell_of_block g0 rfl
  have f6 : w1.cell? ⟨w.heap.size + 1, 0, none⟩ = some (.int .i64 0) := cell_of_block g1 rfl
  have f7 : w1.cell? ⟨w.heap.size + 1, 1, none⟩ = some (.int .i64 0) := cell_of_block g1 rfl
  have d8 : w1.frozen? ⟨w.heap.size, 0, none⟩ = false := free_of_block g0
  have d9 : w1.frozen? ⟨w.heap.size, 1, none⟩ = false := free_of_block g0
  have d10 : w1.frozen? ⟨w.heap.size + 1, 0, none⟩ = false := free_of_block g1
  have d11 : w1.frozen? ⟨w.heap.size + 1, 1, none⟩ = false := free_of_block g1
  go_wp2
  clear f4 f5 f6 f7 d8 d9 d10 d11
  refine ret_at (fun ve hW2 => ?_)
  have g0n : ve.heap[w.heap.size]? = some (.cells #[.int .i64 ax, .int .i64 ay] 23) := by rw [hW2]; exact set_other (set_other (g0) (by omega)) (by omega)
  have g1n : ve.heap[w.heap.size + 1]? = some (.cells #[.int .i64 ax, .int .i64 ay] 23) := by rw [hW2]; exact set_block (set_block (g1))
  have hbn : Below w.heap.size w ve := by rw [hW2]; exact ((hb).setCell (by simp) _).setCell (by simp) _
  have hzn : w.heap.size + 2 ≤ ve.heap.size := by rw [hW2]; simp only [World.size_setCell]; exact hz
  clear hW2 hb hz g0 g1
  have g0 := g0n
  clear g0n
  have g1 := g1n
  clear g1n
  have hb := hbn
  have hz := hzn
  clear hbn hzn
  have r12 : ve.cell? ⟨w.heap.size + 1, 0, none⟩ = some (.int .i64 ax) := cell_of_block g1 rfl
  have r13 : ve.cell? ⟨w.heap.size + 1, 1, none⟩ = some (.int .i64 ay) := cell_of_block g1 rfl
  exact bodyPost_ret (v := .agg #[.int .i64 ax, .int .i64 ay]) (by simp [results, Try.results11, go_sem, r12, r13]) rfl ⟨rfl, hb⟩


theorem refturned_one (ax ay q : Int) (w : World) (h : mayB ax ay = true) (hq : q % 4 = 1) :
    Calls Try.prog 11 #[.agg #[.int .i64 ax, .int .i64 ay], .int .i64 q] w fun e w' => e = .returned (.agg #[.int .i64 (-ay), .int .i64 ax]) ∧ Below w.heap.size w w' := by
  obtain ⟨q1, q2⟩ := mayB_x h
  obtain ⟨q3, q4⟩ := mayB_y h
  have hq := (rem_four q).trans hq
  go_enter Try.func11, Try.ntmps11
  go_upto_region 1 with (fail)
  refine plain_hid (fun W hW ops hops => ?_)
  have hb : Below w.heap.size w W := by rw [hW]; go_grown
  have hz : w.heap.size + 2 ≤ W.heap.size := by rw [hW]; simp
  have g0 : W.heap[w.heap.size]? = some (.cells #[.int .i64 ax, .int .i64 ay] 23) := by rw [hW]; exact heap_alloc_lt (heap_alloc_is (rfl))
  have g1 : W.heap[w.heap.size + 1]? = some (.cells #[.int .i64 0, .int .i64 0] 23) := by rw [hW]; exact heap_alloc_is (by simp)
  clear hW
  clear hops
  have f0 : ∀ x : Later W [], x.w.cell? ⟨w.heap.size, 0, none⟩ = some (.int .i64 ax) := fun x => cell_of_block (Later.at0 g0 x) rfl
  have f1 : ∀ x : Later W [], x.w.cell? ⟨w.heap.size, 1, none⟩ = some (.int .i64 ay) := fun x => cell_of_block (Later.at0 g0 x) rfl
  have f2 : ∀ x : Later W [], x.w.cell? ⟨w.heap.size + 1, 0, none⟩ = some (.int .i64 0) := fun x => cell_of_block (Later.at0 g1 x) rfl
  have f3 : ∀ x : Later W [], x.w.cell? ⟨w.heap.size + 1, 1, none⟩ = some (.int .i64 0) := fun x => cell_of_block (Later.at0 g1 x) rfl
  repeat (refine walkT_step (fun K hK => ?_); go_simp; first | (refine hK _ _ ?_; clear hK K) | (refine ⟨_, fun x => refmay_any _ _ _, ?_⟩; refine hK _ _ ?_; clear hK K))
  refine walkT_nil ?_
  intro w1 hc
  replace g0 := hc.at0 g0
  replace g1 := hc.at0 g1
  replace hb := hb.trans (hc.below.mono hb.size)
  replace hz := Nat.le_trans hz hc.kept.size
  clear hc f0 f1 f2 f3 W
  have f4 : w1.cell? ⟨w.heap.size, 0, none⟩ = some (.int .i64 ax) := cell_of_block g0 rfl
  have f5 : w1.cell? ⟨w.heap.size, 1, none⟩ = some (.int .i64 ay) := cell_of_block g0 rfl
  have f6 : w1.cell? ⟨w.heap.size + 1, 0, none⟩ = some (.int .i64 0) := cell_of_block g1 rfl
  have f7 : w1.cell? ⟨w.heap.size + 1, 1, none⟩ = some (.int .i64 0) := cell_of_block g1 rfl
  have d8 : w1.frozen? ⟨w.heap.size, 0, none⟩ = false := free_of_block g0
  have d9 : w1.frozen? ⟨w.heap.size, 1, none⟩ = false := free_of_block g0
  have d10 : w1.frozen? ⟨w.heap.size + 1, 0, none⟩ = false := free_of_block g1
  have d11 : w1.frozen? ⟨w.heap.size + 1, 1, none⟩ = false := free_of_block g1
  go_wp2
  clear f4 f5 f6 f7 d8 d9 d10 d11
  refine ret_at (fun ve hW2 => ?_)
  have g0n : ve.heap[w.heap.size]? = some (.cells #[.int .i64 ax, .int .i64 ay] 23) := by rw [hW2]; exact set_other (set_other (g0) (by omega)) (by omega)
  have g1n : ve.heap[w.heap.size + 1]? = some (.cells #[.int .i64 (-ay), .int .i64 ax] 23) := by rw [hW2]; exact set_block (set_block (g1))
  have hbn : Below w.heap.size w ve := by rw [hW2]; exact ((hb).setCell (by simp) _).setCell (by simp) _
  have hzn : w.heap.size + 2 ≤ ve.heap.size := by rw [hW2]; simp only [World.size_setCell]; exact hz
  clear hW2 hb hz g0 g1
  have g0 := g0n
  clear g0n
  have g1 := g1n
  clear g1n
  have hb := hbn
  have hz := hzn
  clear hbn hzn
  have r12 : ve.cell? ⟨w.heap.size + 1, 0, none⟩ = some (.int .i64 (-ay)) := cell_of_block g1 rfl
  have r13 : ve.cell? ⟨w.heap.size + 1, 1, none⟩ = some (.int .i64 ax) := cell_of_block g1 rfl
  exact bodyPost_ret (v := .agg #[.int .i64 (-ay), .int .i64 ax]) (by simp [results, Try.results11, go_sem, r12, r13]) rfl ⟨rfl, hb⟩


theorem refturned_two (ax ay q : Int) (w : World) (h : mayB ax ay = true) (hq : q % 4 = 2) :
    Calls Try.prog 11 #[.agg #[.int .i64 ax, .int .i64 ay], .int .i64 q] w fun e w' => e = .returned (.agg #[.int .i64 (-ax), .int .i64 (-ay)]) ∧ Below w.heap.size w w' := by
  obtain ⟨q1, q2⟩ := mayB_x h
  obtain ⟨q3, q4⟩ := mayB_y h
  have hq := (rem_four q).trans hq
  go_enter Try.func11, Try.ntmps11
  go_upto_region 1 with (fail)
  refine plain_hid (fun W hW ops hops => ?_)
  have hb : Below w.heap.size w W := by rw [hW]; go_grown
  have hz : w.heap.size + 2 ≤ W.heap.size := by rw [hW]; simp
  have g0 : W.heap[w.heap.size]? = some (.cells #[.int .i64 ax, .int .i64 ay] 23) := by rw [hW]; exact heap_alloc_lt (heap_alloc_is (rfl))
  have g1 : W.heap[w.heap.size + 1]? = some (.cells #[.int .i64 0, .int .i64 0] 23) := by rw [hW]; exact heap_alloc_is (by simp)
  clear hW
  clear hops
  have f0 : ∀ x : Later W [], x.w.cell? ⟨w.heap.size, 0, none⟩ = some (.int .i64 ax) := fun x => cell_of_block (Later.at0 g0 x) rfl
  have f1 : ∀ x : Later W [], x.w.cell? ⟨w.heap.size, 1, none⟩ = some (.int .i64 ay) := fun x => cell_of_block (Later.at0 g0 x) rfl
  have f2 : ∀ x : Later W [], x.w.cell? ⟨w.heap.size + 1, 0, none⟩ = some (.int .i64 0) := fun x => cell_of_block (Later.at0 g1 x) rfl
  have f3 : ∀ x : Later W [], x.w.cell? ⟨w.heap.size + 1, 1, none⟩ = some (.int .i64 0) := fun x => cell_of_block (Later.at0 g1 x) rfl
  repeat (refine walkT_step (fun K hK => ?_); go_simp; first | (refine hK _ _ ?_; clear hK K) | (refine ⟨_, fun x => refmay_any _ _ _, ?_⟩; refine hK _ _ ?_; clear hK K))
  refine walkT_nil ?_
  intro w1 hc
  replace g0 := hc.at0 g0
  replace g1 := hc.at0 g1
  replace hb := hb.trans (hc.below.mono hb.size)
  replace hz := Nat.le_trans hz hc.kept.size
  clear hc f0 f1 f2 f3 W
  have f4 : w1.cell? ⟨w.heap.size, 0, none⟩ = some (.int .i64 ax) := cell_of_block g0 rfl
  have f5 : w1.cell? ⟨w.heap.size, 1, none⟩ = some (.int .i64 ay) := cell_of_block g0 rfl
  have f6 : w1.cell? ⟨w.heap.size + 1, 0, none⟩ = some (.int .i64 0) := cell_of_block g1 rfl
  have f7 : w1.cell? ⟨w.heap.size + 1, 1, none⟩ = some (.int .i64 0) := cell_of_block g1 rfl
  have d8 : w1.frozen? ⟨w.heap.size, 0, none⟩ = false := free_of_block g0
  have d9 : w1.frozen? ⟨w.heap.size, 1, none⟩ = false := free_of_block g0
  have d10 : w1.frozen? ⟨w.heap.size + 1, 0, none⟩ = false := free_of_block g1
  have d11 : w1.frozen? ⟨w.heap.size + 1, 1, none⟩ = false := free_of_block g1
  go_wp2
  clear f4 f5 f6 f7 d8 d9 d10 d11
  refine ret_at (fun ve hW2 => ?_)
  have g0n : ve.heap[w.heap.size]? = some (.cells #[.int .i64 ax, .int .i64 ay] 23) := by rw [hW2]; exact set_other (set_other (g0) (by omega)) (by omega)
  have g1n : ve.heap[w.heap.size + 1]? = some (.cells #[.int .i64 (-ax), .int .i64 (-ay)] 23) := by rw [hW2]; exact set_block (set_block (g1))
  have hbn : Below w.heap.size w ve := by rw [hW2]; exact ((hb).setCell (by simp) _).setCell (by simp) _
  have hzn : w.heap.size + 2 ≤ ve.heap.size := by rw [hW2]; simp only [World.size_setCell]; exact hz
  clear hW2 hb hz g0 g1
  have g0 := g0n
  clear g0n
  have g1 := g1n
  clear g1n
  have hb := hbn
  have hz := hzn
  clear hbn hzn
  have r12 : ve.cell? ⟨w.heap.size + 1, 0, none⟩ = some (.int .i64 (-ax)) := cell_of_block g1 rfl
  have r13 : ve.cell? ⟨w.heap.size + 1, 1, none⟩ = some (.int .i64 (-ay)) := cell_of_block g1 rfl
  exact bodyPost_ret (v := .agg #[.int .i64 (-ax), .int .i64 (-ay)]) (by simp [results, Try.results11, go_sem, r12, r13]) rfl ⟨rfl, hb⟩


theorem refturned_three (ax ay q : Int) (w : World) (h : mayB ax ay = true) (hq : q % 4 = 3) :
    Calls Try.prog 11 #[.agg #[.int .i64 ax, .int .i64 ay], .int .i64 q] w fun e w' => e = .returned (.agg #[.int .i64 ay, .int .i64 (-ax)]) ∧ Below w.heap.size w w' := by
  obtain ⟨q1, q2⟩ := mayB_x h
  obtain ⟨q3, q4⟩ := mayB_y h
  have hq := (rem_four q).trans hq
  go_enter Try.func11, Try.ntmps11
  go_upto_region 1 with (fail)
  refine plain_hid (fun W hW ops hops => ?_)
  have hb : Below w.heap.size w W := by rw [hW]; go_grown
  have hz : w.heap.size + 2 ≤ W.heap.size := by rw [hW]; simp
  have g0 : W.heap[w.heap.size]? = some (.cells #[.int .i64 ax, .int .i64 ay] 23) := by rw [hW]; exact heap_alloc_lt (heap_alloc_is (rfl))
  have g1 : W.heap[w.heap.size + 1]? = some (.cells #[.int .i64 0, .int .i64 0] 23) := by rw [hW]; exact heap_alloc_is (by simp)
  clear hW
  clear hops
  have f0 : ∀ x : Later W [], x.w.cell? ⟨w.heap.size, 0, none⟩ = some (.int .i64 ax) := fun x => cell_of_block (Later.at0 g0 x) rfl
  have f1 : ∀ x : Later W [], x.w.cell? ⟨w.heap.size, 1, none⟩ = some (.int .i64 ay) := fun x => cell_of_block (Later.at0 g0 x) rfl
  have f2 : ∀ x : Later W [], x.w.cell? ⟨w.heap.size + 1, 0, none⟩ = some (.int .i64 0) := fun x => cell_of_block (Later.at0 g1 x) rfl
  have f3 : ∀ x : Later W [], x.w.cell? ⟨w.heap.size + 1, 1, none⟩ = some (.int .i64 0) := fun x => cell_of_block (Later.at0 g1 x) rfl
  repeat (refine walkT_step (fun K hK => ?_); go_simp; first | (refine hK _ _ ?_; clear hK K) | (refine ⟨_, fun x => refmay_any _ _ _, ?_⟩; refine hK _ _ ?_; clear hK K))
  refine walkT_nil ?_
  intro w1 hc
  replace g0 := hc.at0 g0
  replace g1 := hc.at0 g1
  replace hb := hb.trans (hc.below.mono hb.size)
  replace hz := Nat.le_trans hz hc.kept.size
  clear hc f0 f1 f2 f3 W
  have f4 : w1.cell? ⟨w.heap.size, 0, none⟩ = some (.int .i64 ax) := cell_of_block g0 rfl
  have f5 : w1.cell? ⟨w.heap.size, 1, none⟩ = some (.int .i64 ay) := cell_of_block g0 rfl
  have f6 : w1.cell? ⟨w.heap.size + 1, 0, none⟩ = some (.int .i64 0) := cell_of_block g1 rfl
  have f7 : w1.cell? ⟨w.heap.size + 1, 1, none⟩ = some (.int .i64 0) := cell_of_block g1 rfl
  have d8 : w1.frozen? ⟨w.heap.size, 0, none⟩ = false := free_of_block g0
  have d9 : w1.frozen? ⟨w.heap.size, 1, none⟩ = false := free_of_block g0
  have d10 : w1.frozen? ⟨w.heap.size + 1, 0, none⟩ = false := free_of_block g1
  have d11 : w1.frozen? ⟨w.heap.size + 1, 1, none⟩ = false := free_of_block g1
  go_wp2
  clear f4 f5 f6 f7 d8 d9 d10 d11
  refine ret_at (fun ve hW2 => ?_)
  have g0n : ve.heap[w.heap.size]? = some (.cells #[.int .i64 ax, .int .i64 ay] 23) := by rw [hW2]; exact set_other (set_other (g0) (by omega)) (by omega)
  have g1n : ve.heap[w.heap.size + 1]? = some (.cells #[.int .i64 ay, .int .i64 (-ax)] 23) := by rw [hW2]; exact set_block (set_block (g1))
  have hbn : Below w.heap.size w ve := by rw [hW2]; exact ((hb).setCell (by simp) _).setCell (by simp) _
  have hzn : w.heap.size + 2 ≤ ve.heap.size := by rw [hW2]; simp only [World.size_setCell]; exact hz
  clear hW2 hb hz g0 g1
  have g0 := g0n
  clear g0n
  have g1 := g1n
  clear g1n
  have hb := hbn
  have hz := hzn
  clear hbn hzn
  have r12 : ve.cell? ⟨w.heap.size + 1, 0, none⟩ = some (.int .i64 ay) := cell_of_block g1 rfl
  have r13 : ve.cell? ⟨w.heap.size + 1, 1, none⟩ = some (.int .i64 (-ax)) := cell_of_block g1 rfl
  exact bodyPost_ret (v := .agg #[.int .i64 ay, .int .i64 (-ax)]) (by simp [results, Try.results11, go_sem, r12, r13]) rfl ⟨rfl, hb⟩


theorem turned_no (ax ay q : Int) (w : World) (h : mayB ax ay = false) :
    Calls Try.prog 10 #[.agg #[.int .i64 ax, .int .i64 ay], .int .i64 q] w fun e w' => e = .returned (.agg #[.int .i64 0, .int .i64 0]) ∧ Below w.heap.size w w' := by
  go_enter Try.func10, Try.ntmps10
  go_upto_region 1 with (fail)
  refine plain_hid (fun W hW ops hops => ?_)
  have hb : Below w.heap.size w W := by rw [hW]; go_grown
  have hz : w.heap.size + 2 ≤ W.heap.size := by rw [hW]; simp
  have g0 : W.heap[w.heap.size]? = some (.cells #[.int .i64 ax, .int .i64 ay] 23) := by rw [hW]; exact heap_alloc_lt (heap_alloc_is (rfl))
  have g1 : W.heap[w.heap.size + 1]? = some (.cells #[.int .i64 0, .int .i64 0] 23) := by rw [hW]; exact heap_alloc_is (by simp)
  clear hW
  clear hops
  have f0 : ∀ x : Later W [], x.w.cell? ⟨w.heap.size, 0, none⟩ = some (.int .i64 ax) := fun x => cell_of_block (Later.at0 g0 x) rfl
  have f1 : ∀ x : Later W [], x.w.cell? ⟨w.heap.size, 1, none⟩ = some (.int .i64 ay) := fun x => cell_of_block (Later.at0 g0 x) rfl
  have f2 : ∀ x : Later W [], x.w.cell? ⟨w.heap.size + 1, 0, none⟩ = some (.int .i64 0) := fun x => cell_of_block (Later.at0 g1 x) rfl
  have f3 : ∀ x : Later W [], x.w.cell? ⟨w.heap.size + 1, 1, none⟩ = some (.int .i64 0) := fun x => cell_of_block (Later.at0 g1 x) rfl
  repeat (refine walkT_step (fun K hK => ?_); go_simp; first | (refine hK _ _ ?_; clear hK K) | (refine ⟨_, fun x => may_any _ _ _, ?_⟩; refine hK _ _ ?_; clear hK K))
  refine walkT_nil ?_
  intro w1 hc
  replace g0 := hc.at0 g0
  replace g1 := hc.at0 g1
  replace hb := hb.trans (hc.below.mono hb.size)
  replace hz := Nat.le_trans hz hc.kept.size
  clear hc f0 f1 f2 f3 W
  have f4 : w1.cell? ⟨w.heap.size, 0, none⟩ = some (.int .i64 ax) := cell_of_block g0 rfl
  have f5 : w1.cell? ⟨w.heap.size, 1, none⟩ = some (.int .i64 ay) := cell_of_block g0 rfl
  have f6 : w1.cell? ⟨w.heap.size + 1, 0, none⟩ = some (.int .i64 0) := cell_of_block g1 rfl
  have f7 : w1.cell? ⟨w.heap.size + 1, 1, none⟩ = some (.int .i64 0) := cell_of_block g1 rfl
  have d8 : w1.frozen? ⟨w.heap.size, 0, none⟩ = false := free_of_block g0
  have d9 : w1.frozen? ⟨w.heap.size, 1, none⟩ = false := free_of_block g0
  have d10 : w1.frozen? ⟨w.heap.size + 1, 0, none⟩ = false := free_of_block g1
  have d11 : w1.frozen? ⟨w.heap.size + 1, 1, none⟩ = false := free_of_block g1
  go_wp2
  clear f4 f5 f6 f7 d8 d9 d10 d11
  refine ret_at (fun ve hW2 => ?_)
  have g0n : ve.heap[w.heap.size]? = some (.cells #[.int .i64 ax, .int .i64 ay] 23) := by rw [hW2]; exact set_other (set_other (g0) (by omega)) (by omega)
  have g1n : ve.heap[w.heap.size + 1]? = some (.cells #[.int .i64 0, .int .i64 0] 23) := by rw [hW2]; exact set_block (set_block (g1))
  have hbn : Below w.heap.size w ve := by rw [hW2]; exact ((hb).setCell (by simp) _).setCell (by simp) _
  have hzn : w.heap.size + 2 ≤ ve.heap.size := by rw [hW2]; simp only [World.size_setCell]; exact hz
  clear hW2 hb hz g0 g1
  have g0 := g0n
  clear g0n
  have g1 := g1n
  clear g1n
  have hb := hbn
  have hz := hzn
  clear hbn hzn
  have r12 : ve.cell? ⟨w.heap.size + 1, 0, none⟩ = some (.int .i64 0) := cell_of_block g1 rfl
  have r13 : ve.cell? ⟨w.heap.size + 1, 1, none⟩ = some (.int .i64 0) := cell_of_block g1 rfl
  exact bodyPost_ret (v := .agg #[.int .i64 0, .int .i64 0]) (by simp [results, Try.results10, go_sem, r12, r13]) rfl ⟨rfl, hb⟩


theorem refturned_no (ax ay q : Int) (w : World) (h : mayB ax ay = false) :
    Calls Try.prog 11 #[.agg #[.int .i64 ax, .int .i64 ay], .int .i64 q] w fun e w' => e = .returned (.agg #[.int .i64 0, .int .i64 0]) ∧ Below w.heap.size w w' := by
  go_enter Try.func11, Try.ntmps11
  go_upto_region 1 with (fail)
  refine plain_hid (fun W hW ops hops => ?_)
  have hb : Below w.heap.size w W := by rw [hW]; go_grown
  have hz : w.heap.size + 2 ≤ W.heap.size := by rw [hW]; simp
  have g0 : W.heap[w.heap.size]? = some (.cells #[.int .i64 ax, .int .i64 ay] 23) := by rw [hW]; exact heap_alloc_lt (heap_alloc_is (rfl))
  have g1 : W.heap[w.heap.size + 1]? = some (.cells #[.int .i64 0, .int .i64 0] 23) := by rw [hW]; exact heap_alloc_is (by simp)
  clear hW
  clear hops
  have f0 : ∀ x : Later W [], x.w.cell? ⟨w.heap.size, 0, none⟩ = some (.int .i64 ax) := fun x => cell_of_block (Later.at0 g0 x) rfl
  have f1 : ∀ x : Later W [], x.w.cell? ⟨w.heap.size, 1, none⟩ = some (.int .i64 ay) := fun x => cell_of_block (Later.at0 g0 x) rfl
  have f2 : ∀ x : Later W [], x.w.cell? ⟨w.heap.size + 1, 0, none⟩ = some (.int .i64 0) := fun x => cell_of_block (Later.at0 g1 x) rfl
  have f3 : ∀ x : Later W [], x.w.cell? ⟨w.heap.size + 1, 1, none⟩ = some (.int .i64 0) := fun x => cell_of_block (Later.at0 g1 x) rfl
  repeat (refine walkT_step (fun K hK => ?_); go_simp; first | (refine hK _ _ ?_; clear hK K) | (refine ⟨_, fun x => refmay_any _ _ _, ?_⟩; refine hK _ _ ?_; clear hK K))
  refine walkT_nil ?_
  intro w1 hc
  replace g0 := hc.at0 g0
  replace g1 := hc.at0 g1
  replace hb := hb.trans (hc.below.mono hb.size)
  replace hz := Nat.le_trans hz hc.kept.size
  clear hc f0 f1 f2 f3 W
  have f4 : w1.cell? ⟨w.heap.size, 0, none⟩ = some (.int .i64 ax) := cell_of_block g0 rfl
  have f5 : w1.cell? ⟨w.heap.size, 1, none⟩ = some (.int .i64 ay) := cell_of_block g0 rfl
  have f6 : w1.cell? ⟨w.heap.size + 1, 0, none⟩ = some (.int .i64 0) := cell_of_block g1 rfl
  have f7 : w1.cell? ⟨w.heap.size + 1, 1, none⟩ = some (.int .i64 0) := cell_of_block g1 rfl
  have d8 : w1.frozen? ⟨w.heap.size, 0, none⟩ = false := free_of_block g0
  have d9 : w1.frozen? ⟨w.heap.size, 1, none⟩ = false := free_of_block g0
  have d10 : w1.frozen? ⟨w.heap.size + 1, 0, none⟩ = false := free_of_block g1
  have d11 : w1.frozen? ⟨w.heap.size + 1, 1, none⟩ = false := free_of_block g1
  go_wp2
  clear f4 f5 f6 f7 d8 d9 d10 d11
  refine ret_at (fun ve hW2 => ?_)
  have g0n : ve.heap[w.heap.size]? = some (.cells #[.int .i64 ax, .int .i64 ay] 23) := by rw [hW2]; exact set_other (set_other (g0) (by omega)) (by omega)
  have g1n : ve.heap[w.heap.size + 1]? = some (.cells #[.int .i64 0, .int .i64 0] 23) := by rw [hW2]; exact set_block (set_block (g1))
  have hbn : Below w.heap.size w ve := by rw [hW2]; exact ((hb).setCell (by simp) _).setCell (by simp) _
  have hzn : w.heap.size + 2 ≤ ve.heap.size := by rw [hW2]; simp only [World.size_setCell]; exact hz
  clear hW2 hb hz g0 g1
  have g0 := g0n
  clear g0n
  have g1 := g1n
  clear g1n
  have hb := hbn
  have hz := hzn
  clear hbn hzn
  have r12 : ve.cell? ⟨w.heap.size + 1, 0, none⟩ = some (.int .i64 0) := cell_of_block g1 rfl
  have r13 : ve.cell? ⟨w.heap.size + 1, 1, none⟩ = some (.int .i64 0) := cell_of_block g1 rfl
  exact bodyPost_ret (v := .agg #[.int .i64 0, .int .i64 0]) (by simp [results, Try.results11, go_sem, r12, r13]) rfl ⟨rfl, hb⟩


def turnX (ax ay q : Int) : Int := if mayB ax ay = true then (if q % 4 = 0 then ax else if q % 4 = 1 then -ay else if q % 4 = 2 then -ax else ay) else 0
def turnY (ax ay q : Int) : Int := if mayB ax ay = true then (if q % 4 = 0 then ay else if q % 4 = 1 then ax else if q % 4 = 2 then -ay else -ax) else 0


theorem turned_any (ax ay q : Int) (w : World) : Calls Try.prog 10 #[.agg #[.int .i64 ax, .int .i64 ay], .int .i64 q] w fun e w' => e = .returned (.agg #[.int .i64 (turnX ax ay q), .int .i64 (turnY ax ay q)]) ∧ Below w.heap.size w w' := by
  unfold turnX turnY
  cases h : mayB ax ay
  · exact turned_no ax ay q w h
  · rw [if_pos rfl, if_pos rfl]
    by_cases h0 : q % 4 = 0
    · rw [if_pos h0, if_pos h0]; exact turned_zero ax ay q w h h0
    · by_cases h1 : q % 4 = 1
      · rw [if_neg h0, if_pos h1, if_neg h0, if_pos h1]; exact turned_one ax ay q w h h1
      · by_cases h2 : q % 4 = 2
        · rw [if_neg h0, if_neg h1, if_pos h2, if_neg h0, if_neg h1, if_pos h2]; exact turned_two ax ay q w h h2
        · rw [if_neg h0, if_neg h1, if_neg h2, if_neg h0, if_neg h1, if_neg h2]; exact turned_three ax ay q w h (by omega)


theorem refturned_any (ax ay q : Int) (w : World) : Calls Try.prog 11 #[.agg #[.int .i64 ax, .int .i64 ay], .int .i64 q] w fun e w' => e = .returned (.agg #[.int .i64 (turnX ax ay q), .int .i64 (turnY ax ay q)]) ∧ Below w.heap.size w w' := by
  unfold turnX turnY
  cases h : mayB ax ay
  · exact refturned_no ax ay q w h
  · rw [if_pos rfl, if_pos rfl]
    by_cases h0 : q % 4 = 0
    · rw [if_pos h0, if_pos h0]; exact refturned_zero ax ay q w h h0
    · by_cases h1 : q % 4 = 1
      · rw [if_neg h0, if_pos h1, if_neg h0, if_pos h1]; exact refturned_one ax ay q w h h1
      · by_cases h2 : q % 4 = 2
        · rw [if_neg h0, if_neg h1, if_pos h2, if_neg h0, if_neg h1, if_pos h2]; exact refturned_two ax ay q w h h2
        · rw [if_neg h0, if_neg h1, if_neg h2, if_neg h0, if_neg h1, if_neg h2]; exact refturned_three ax ay q w h (by omega)


theorem awake_any (w : World) : Calls Try.prog 13 #[] w fun e w' => e = .returned (.bool true) ∧ Below w.heap.size w w' := by
  go_enter Try.func13, Try.ntmps13
  go_upto_region 1 with (fail)
  refine plain_hid (fun W hW ops hops => ?_)
  subst hW
  have o5 : (ops[5]?).bind (fun x => x.dst) = some 6 := by rw [hops]; rfl
  have o11 : (ops[11]?).bind (fun x => x.dst) = some 12 := by rw [hops]; rfl
  have o17 : (ops[17]?).bind (fun x => x.dst) = some 18 := by rw [hops]; rfl
  clear hops
  have c1 : crossI 0 0 1 0 0 1 = 1 := by decide
  have c2 : dotI 0 0 3 4 3 4 = 25 := by decide
  have c3 : turnX 1 0 1 = 0 := by decide
  have c4 : turnY 1 0 1 = 1 := by decide
  have c5 : mayB 0 0 = true := by decide
  repeat (refine walkT_step (fun K hK => ?_); go_simp; first | (refine hK _ _ ?_; clear hK K) | (refine ⟨_, fun x => cross_any _ _ _ _ _ _ _, ?_⟩; refine hK _ _ ?_; clear hK K) | (refine ⟨_, fun x => far_any _ _ _ _ _, ?_⟩; refine hK _ _ ?_; clear hK K) | (refine ⟨_, fun x => turned_any _ _ _ _, ?_⟩; refine hK _ _ ?_; clear hK K) | (refine ⟨_, fun x => may_any _ _ _, ?_⟩; refine hK _ _ ?_; clear hK K))
  refine walkT_nil ?_
  intro w1 hc
  have hb := hc.below
  clear hc
  go_wp2
  go_ret
  exact ⟨rfl, hb⟩

end Go.Proofs.Ytcpjgcpclekjkaa
