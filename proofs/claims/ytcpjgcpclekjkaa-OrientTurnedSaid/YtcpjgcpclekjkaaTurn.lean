/-
  WALKS OF TURNING. CONDITIONS: none.
-/
import Derived.Test.YtcpjgcpclekjkaaPts2
namespace Go.Proofs.Ytcpjgcpclekjkaa
open Go.RowKit Go.Proofs.Ytcpjgcpclekjkaa.Tame
set_option maxHeartbeats 400000

theorem and_three (q : Int) : bits .and .i64 q 3 = q % 4 := by
  show IntKind.i64.wrap ((BitVec.ofInt 64 q &&& BitVec.ofInt 64 3).toNat : Int) = _
  have e3 : (BitVec.ofInt 64 3).toNat = 2 ^ 2 - 1 := by decide
  rw [BitVec.toNat_and, e3, Nat.and_two_pow_sub_one_eq_mod, BitVec.toNat_ofInt]
  have : ((q % ((2 ^ 64 : Nat) : Int)).toNat : Int) = q % 18446744073709551616 := by
    have : 0 ≤ q % 18446744073709551616 := Int.emod_nonneg _ (by decide)
    simp only [Nat.reducePow, Int.cast_ofNat_Int]
    omega
  rw [IntKind.wrap_i64]
  generalize hm : (q % ((2 ^ 64 : Nat) : Int)).toNat = m at *
  omega



theorem turned_zero (ax ay q : Int) (w : World) (h : mayB ax ay = true) (hq : q % 4 = 0) :
    Calls Try.prog 10 #[.agg #[.int .i64 ax, .int .i64 ay], .int .i64 q] w fun e w' => e = .returned (.agg #[.int .i64 ax, .int .i64 ay]) ∧ Below w.heap.size w w' := by
  obtain ⟨q1, q2⟩ := mayB_x h
  obtain ⟨q3, q4⟩ := mayB_y h
  have hq := (and_three q).trans hq
  go_enter Try.func10, Try.ntmps10
  go_upto_region 1 with (fail)
  refine plain_hid (fun W hW ops hops => ?_)
  have hb : Below w.heap.size w W := by rw [hW]; go_grown
  have hz : w.heap.size + 2 ≤ W.heap.size := by rw [hW]; simp
  have g0 : W.heap[w.heap.size]? = some (.cells #[.int .i64 ax, .int .i64 ay] 23) := by rw [hW]; exact heap_alloc_lt (heap_alloc_is (rfl))
  have g1 : W.heap[w.heap.size + 1]? = some (.cells #[.int .i64 0, .int .i64 0] 23) := by rw [hW]; exact heap_alloc_is (by simp)
  clear hW
  clear hops
  have f0 : ∀ x : Later W [], x.w.cell? ⟨w.heap.size, 0, none⟩ = some (.int .i64 ax) := fun x => cell_of_block (Later.at0 g0 x) rfl
  have f1 : ∀ x : Later W [], x.w.cell? ⟨w.heap.size, 1, none⟩ = some (.int .i64 ay) := fun x => cell_of_block (Later.at0 g0 x) rfl
  have f2 : ∀ x : Later W [], x.w.cell? ⟨w.heap.size + 1, 0, none⟩ = some (.int .i64 0) := fun x => cell_of_block (Later.at0 g1 x) rfl
  have f3 : ∀ x : Later W [], x.w.cell? ⟨w.heap.size + 1, 1, none⟩ = some (.int .i64 0) := fun x => cell_of_block (Later.at0 g1 x) rfl
  repeat (refine walkT_step (fun K hK => ?_); go_simp; first | (refine hK _ _ ?_; clear hK K) | (refine ⟨_, fun x => may_any _ _ _, ?_⟩; refine hK _ _ ?_; clear hK K))
  refine walkT_nil ?_
  intro w1 hc
  replace g0 := hc.at0 g0
  replace g1 := hc.at0 g1
  replace hb := hb.trans (hc.below.mono hb.size)
  replace hz := Nat.le_trans hz hc.kept.size
  clear hc f0 f1 f2 f3 W
  have f4 : w1.cell? ⟨w.heap.size, 0, none⟩ = some (.int .i64 ax) := cell_of_block g0 rfl
  have f5 : w1.cell? ⟨w.heap.size, 1, none⟩ = some (.int .i64 ay) := cell_of_block g0 rfl
  have f6 : w1.cell? ⟨w.heap.size + 1, 0, none⟩ = some (.int .i64 0) := cell_of_block g1 rfl
  have f7 : w1.cell? ⟨w.heap.size + 1, 1, none⟩ = some (.int .i64 0) := cell_of_block g1 rfl
  have d8 : w1.frozen? ⟨w.heap.size, 0, none⟩ = false := free_of_block g0
  have d9 : w1.frozen? ⟨w.heap.size, 1, none⟩ = false := free_of_block g0
  have d10 : w1.frozen? ⟨w.heap.size + 1, 0, none⟩ = false := free_of_block g1
  have d11 : w1.frozen? ⟨w.heap.size + 1, 1, none⟩ = false := free_of_block g1
  go_wp2
  refine wp_loop_rounds 1 ?_
  rw [rounds_succ]
  go_wp2
  clear f4 f5 f6 f7 d8 d9 d10 d11
  refine ret_at (fun ve hW2 => ?_)
  have g0n : ve.heap[w.heap.size]? = some (.cells #[.int .i64 ax, .int .i64 ay] 23) := by rw [hW2]; exact set_other (set_other (g0) (by omega)) (by omega)
  have g1n : ve.heap[w.heap.size + 1]? = some (.cells #[.int .i64 ax, .int .i64 ay] 23) := by rw [hW2]; exact set_block (set_block (g1))
  have hbn : Below w.heap.size w ve := by rw [hW2]; exact ((hb).setCell (by simp) _).setCell (by simp) _
  have hzn : w.heap.size + 2 ≤ ve.heap.size := by rw [hW2]; simp only [World.size_setCell]; exact hz
  clear hW2 hb hz g0 g1
  have g0 := g0n
  clear g0n
  have g1 := g1n
  clear g1n
  have hb := hbn
  have hz := hzn
  clear hbn hzn
  have r12 : ve.cell? ⟨w.heap.size + 1, 0, none⟩ = some (.int .i64 ax) := cell_of_block g1 rfl
  have r13 : ve.cell? ⟨w.heap.size + 1, 1, none⟩ = some (.int .i64 ay) := cell_of_block g1 rfl
  exact bodyPost_ret (v := .agg #[.int .i64 ax, .int .i64 ay]) (by simp [results, Try.results10, go_sem, r12, r13]) rfl ⟨rfl, hb⟩


theorem turned_one (ax ay q : Int) (w : World) (h : mayB ax ay = true) (hq : q % 4 = 1) :
    Calls Try.prog 10 #[.agg #[.int .i64 ax, .int .i64 ay], .int .i64 q] w fun e w' => e = .returned (.agg #[.int .i64 (-ay), .int .i64 ax]) ∧ Below w.heap.size w w' := by
  obtain ⟨q1, q2⟩ := mayB_x h
  obtain ⟨q3, q4⟩ := mayB_y h
  have hq := (and_three q).trans hq
  go_enter Try.func10, Try.ntmps10
  go_upto_region 1 with (fail)
  refine plain_hid (fun W hW ops hops => ?_)
  have hb : Below w.heap.size w W := by rw [hW]; go_grown
  have hz : w.heap.size + 2 ≤ W.heap.size := by rw [hW]; simp
  have g0 : W.heap[w.heap.size]? = some (.cells #[.int .i64 ax, .int .i64 ay] 23) := by rw [hW]; exact heap_alloc_lt (heap_alloc_is (rfl))
  have g1 : W.heap[w.heap.size + 1]? = some (.cells #[.int .i64 0, .int .i64 0] 23) := by rw [hW]; exact heap_alloc_is (by simp)
  clear hW
  clear hops
  have f0 : ∀ x : Later W [], x.w.cell? ⟨w.heap.size, 0, none⟩ = some (.int .i64 ax) := fun x => cell_of_block (Later.at0 g0 x) rfl
  have f1 : ∀ x : Later W [], x.w.cell? ⟨w.heap.size, 1, none⟩ = some (.int .i64 ay) := fun x => cell_of_block (Later.at0 g0 x) rfl
  have f2 : ∀ x : Later W [], x.w.cell? ⟨w.heap.size + 1, 0, none⟩ = some (.int .i64 0) := fun x => cell_of_block (Later.at0 g1 x) rfl
  have f3 : ∀ x : Later W [], x.w.cell? ⟨w.heap.size + 1, 1, none⟩ = some (.int .i64 0) := fun x => cell_of_block (Later.at0 g1 x) rfl
  repeat (refine walkT_step (fun K hK => ?_); go_simp; first | (refine hK _ _ ?_; clear hK K) | (refine ⟨_, fun x => may_any _ _ _, ?_⟩; refine hK _ _ ?_; clear hK K))
  refine walkT_nil ?_
  intro w1 hc
  replace g0 := hc.at0 g0
  replace g1 := hc.at0 g1
  replace hb := hb.trans (hc.below.mono hb.size)
  replace hz := Nat.le_trans hz hc.kept.size
  clear hc f0 f1 f2 f3 W
  have f4 : w1.cell? ⟨w.heap.size, 0, none⟩ = some (.int .i64 ax) := cell_of_block g0 rfl
  have f5 : w1.cell? ⟨w.heap.size, 1, none⟩ = some (.int .i64 ay) := cell_of_block g0 rfl
  have f6 : w1.cell? ⟨w.heap.size + 1, 0, none⟩ = some (.int .i64 0) := cell_of_block g1 rfl
  have f7 : w1.cell? ⟨w.heap.size + 1, 1, none⟩ = some (.int .i64 0) := cell_of_block g1 rfl
  have d8 : w1.frozen? ⟨w.heap.size, 0, none⟩ = false := free_of_block g0
  have d9 : w1.frozen? ⟨w.heap.size, 1, none⟩ = false := free_of_block g0
  have d10 : w1.frozen? ⟨w.heap.size + 1, 0, none⟩ = false := free_of_block g1
  have d11 : w1.frozen? ⟨w.heap.size + 1, 1, none⟩ = false := free_of_block g1
  go_wp2
  refine wp_loop_rounds 2 ?_
  rw [rounds_succ]
  go_wp2
  clear f4 f5 f6 f7 d8 d9 d10 d11
  refine rounds_at (fun v0 hW2 => ?_)
  have g0n : v0.heap[w.heap.size]? = some (.cells #[.int .i64 (-ay), .int .i64 ax] 23) := by rw [hW2]; exact set_block (set_block (g0))
  have g1n : v0.heap[w.heap.size + 1]? = some (.cells #[.int .i64 0, .int .i64 0] 23) := by rw [hW2]; exact set_other (set_other (g1) (by omega)) (by omega)
  have hbn : Below w.heap.size w v0 := by rw [hW2]; exact ((hb).setCell (by simp) _).setCell (by simp) _
  have hzn : w.heap.size + 2 ≤ v0.heap.size := by rw [hW2]; simp only [World.size_setCell]; exact hz
  clear hW2 hb hz g0 g1
  have g0 := g0n
  clear g0n
  have g1 := g1n
  clear g1n
  have hb := hbn
  have hz := hzn
  clear hbn hzn
  have f12 : v0.cell? ⟨w.heap.size, 0, none⟩ = some (.int .i64 (-ay)) := cell_of_block g0 rfl
  have f13 : v0.cell? ⟨w.heap.size, 1, none⟩ = some (.int .i64 ax) := cell_of_block g0 rfl
  have f14 : v0.cell? ⟨w.heap.size + 1, 0, none⟩ = some (.int .i64 0) := cell_of_block g1 rfl
  have f15 : v0.cell? ⟨w.heap.size + 1, 1, none⟩ = some (.int .i64 0) := cell_of_block g1 rfl
  have d16 : v0.frozen? ⟨w.heap.size, 0, none⟩ = false := free_of_block g0
  have d17 : v0.frozen? ⟨w.heap.size, 1, none⟩ = false := free_of_block g0
  have d18 : v0.frozen? ⟨w.heap.size + 1, 0, none⟩ = false := free_of_block g1
  have d19 : v0.frozen? ⟨w.heap.size + 1, 1, none⟩ = false := free_of_block g1
  rw [rounds_succ]
  go_wp2
  clear f12 f13 f14 f15 d16 d17 d18 d19
  refine ret_at (fun ve hW2 => ?_)
  have g0n : ve.heap[w.heap.size]? = some (.cells #[.int .i64 (-ay), .int .i64 ax] 23) := by rw [hW2]; exact set_other (set_other (g0) (by omega)) (by omega)
  have g1n : ve.heap[w.heap.size + 1]? = some (.cells #[.int .i64 (-ay), .int .i64 ax] 23) := by rw [hW2]; exact set_block (set_block (g1))
  have hbn : Below w.heap.size w ve := by rw [hW2]; exact ((hb).setCell (by simp) _).setCell (by simp) _
  have hzn : w.heap.size + 2 ≤ ve.heap.size := by rw [hW2]; simp only [World.size_setCell]; exact hz
  clear hW2 hb hz g0 g1
  have g0 := g0n
  clear g0n
  have g1 := g1n
  clear g1n
  have hb := hbn
  have hz := hzn
  clear hbn hzn
  have r20 : ve.cell? ⟨w.heap.size + 1, 0, none⟩ = some (.int .i64 (-ay)) := cell_of_block g1 rfl
  have r21 : ve.cell? ⟨w.heap.size + 1, 1, none⟩ = some (.int .i64 ax) := cell_of_block g1 rfl
  exact bodyPost_ret (v := .agg #[.int .i64 (-ay), .int .i64 ax]) (by simp [results, Try.results10, go_sem, r20, r21]) rfl ⟨rfl, hb⟩


theorem turned_two (ax ay q : Int) (w : World) (h : mayB ax ay = true) (hq : q % 4 = 2) :
    Calls Try.prog 10 #[.agg #[.int .i64 ax, .int .i64 ay], .int .i64 q] w fun e w' => e = .returned (.agg #[.int .i64 (-ax), .int .i64 (-ay)]) ∧ Below w.heap.size w w' := by
  obtain ⟨q1, q2⟩ := mayB_x h
  obtain ⟨q3, q4⟩ := mayB_y h
  have hq := (and_three q).trans hq
  go_enter Try.func10, Try.ntmps10
  go_upto_region 1 with (fail)
  refine plain_hid (fun W hW ops hops => ?_)
  have hb : Below w.heap.size w W := by rw [hW]; go_grown
  have hz : w.heap.size + 2 ≤ W.heap.size := by rw [hW]; simp
  have g0 : W.heap[w.heap.size]? = some (.cells #[.int .i64 ax, .int .i64 ay] 23) := by rw [hW]; exact heap_alloc_lt (heap_alloc_is (rfl))
  have g1 : W.heap[w.heap.size + 1]? = some (.cells #[.int .i64 0, .int .i64 0] 23) := by rw [hW]; exact heap_alloc_is (by simp)
  clear hW
  clear hops
  have f0 : ∀ x : Later W [], x.w.cell? ⟨w.heap.size, 0, none⟩ = some (.int .i64 ax) := fun x => cell_of_block (Later.at0 g0 x) rfl
  have f1 : ∀ x : Later W [], x.w.cell? ⟨w.heap.size, 1, none⟩ = some (.int .i64 ay) := fun x => cell_of_block (Later.at0 g0 x) rfl
  have f2 : ∀ x : Later W [], x.w.cell? ⟨w.heap.size + 1, 0, none⟩ = some (.int .i64 0) := fun x => cell_of_block (Later.at0 g1 x) rfl
  have f3 : ∀ x : Later W [], x.w.cell? ⟨w.heap.size + 1, 1, none⟩ = some (.int .i64 0) := fun x => cell_of_block (Later.at0 g1 x) rfl
  repeat (refine walkT_step (fun K hK => ?_); go_simp; first | (refine hK _ _ ?_; clear hK K) | (refine ⟨_, fun x => may_any _ _ _, ?_⟩; refine hK _ _ ?_; clear hK K))
  refine walkT_nil ?_
  intro w1 hc
  replace g0 := hc.at0 g0
  replace g1 := hc.at0 g1
  replace hb := hb.trans (hc.below.mono hb.size)
  replace hz := Nat.le_trans hz hc.kept.size
  clear hc f0 f1 f2 f3 W
  have f4 : w1.cell? ⟨w.heap.size, 0, none⟩ = some (.int .i64 ax) := cell_of_block g0 rfl
  have f5 : w1.cell? ⟨w.heap.size, 1, none⟩ = some (.int .i64 ay) := cell_of_block g0 rfl
  have f6 : w1.cell? ⟨w.heap.size + 1, 0, none⟩ = some (.int .i64 0) := cell_of_block g1 rfl
  have f7 : w1.cell? ⟨w.heap.size + 1, 1, none⟩ = some (.int .i64 0) := cell_of_block g1 rfl
  have d8 : w1.frozen? ⟨w.heap.size, 0, none⟩ = false := free_of_block g0
  have d9 : w1.frozen? ⟨w.heap.size, 1, none⟩ = false := free_of_block g0
  have d10 : w1.frozen? ⟨w.heap.size + 1, 0, none⟩ = false := free_of_block g1
  have d11 : w1.frozen? ⟨w.heap.size + 1, 1, none⟩ = false := free_of_block g1
  go_wp2
  refine wp_loop_rounds 3 ?_
  rw [rounds_succ]
  go_wp2
  clear f4 f5 f6 f7 d8 d9 d10 d11
  refine rounds_at (fun v0 hW2 => ?_)
  have g0n : v0.heap[w.heap.size]? = some (.cells #[.int .i64 (-ay), .int .i64 ax] 23) := by rw [hW2]; exact set_block (set_block (g0))
  have g1n : v0.heap[w.heap.size + 1]? = some (.cells #[.int .i64 0, .int .i64 0] 23) := by rw [hW2]; exact set_other (set_other (g1) (by omega)) (by omega)
  have hbn : Below w.heap.size w v0 := by rw [hW2]; exact ((hb).setCell (by simp) _).setCell (by simp) _
  have hzn : w.heap.size + 2 ≤ v0.heap.size := by rw [hW2]; simp only [World.size_setCell]; exact hz
  clear hW2 hb hz g0 g1
  have g0 := g0n
  clear g0n
  have g1 := g1n
  clear g1n
  have hb := hbn
  have hz := hzn
  clear hbn hzn
  have f12 : v0.cell? ⟨w.heap.size, 0, none⟩ = some (.int .i64 (-ay)) := cell_of_block g0 rfl
  have f13 : v0.cell? ⟨w.heap.size, 1, none⟩ = some (.int .i64 ax) := cell_of_block g0 rfl
  have f14 : v0.cell? ⟨w.heap.size + 1, 0, none⟩ = some (.int .i64 0) := cell_of_block g1 rfl
  have f15 : v0.cell? ⟨w.heap.size + 1, 1, none⟩ = some (.int .i64 0) := cell_of_block g1 rfl
  have d16 : v0.frozen? ⟨w.heap.size, 0, none⟩ = false := free_of_block g0
  have d17 : v0.frozen? ⟨w.heap.size, 1, none⟩ = false := free_of_block g0
  have d18 : v0.frozen? ⟨w.heap.size + 1, 0, none⟩ = false := free_of_block g1
  have d19 : v0.frozen? ⟨w.heap.size + 1, 1, none⟩ = false := free_of_block g1
  rw [rounds_succ]
  go_wp2
  clear f12 f13 f14 f15 d16 d17 d18 d19
  refine rounds_at (fun v1 hW2 => ?_)
  have g0n : v1.heap[w.heap.size]? = some (.cells #[.int .i64 (-ax), .int .i64 (-ay)] 23) := by rw [hW2]; exact set_block (set_block (g0))
  have g1n : v1.heap[w.heap.size + 1]? = some (.cells #[.int .i64 0, .int .i64 0] 23) := by rw [hW2]; exact set_other (set_other (g1) (by omega)) (by omega)
  have hbn : Below w.heap.size w v1 := by rw [hW2]; exact ((hb).setCell (by simp) _).setCell (by simp) _
  have hzn : w.heap.size + 2 ≤ v1.heap.size := by rw [hW2]; simp only [World.size_setCell]; exact hz
  clear hW2 hb hz g0 g1
  have g0 := g0n
  clear g0n
  have g1 := g1n
  clear g1n
  have hb := hbn
  have hz := hzn
  clear hbn hzn
  have f20 : v1.cell? ⟨w.heap.size, 0, none⟩ = some (.int .i64 (-ax)) := cell_of_block g0 rfl
  have f21 : v1.cell? ⟨w.heap.size, 1, none⟩ = some (.int .i64 (-ay)) := cell_of_block g0 rfl
  have f22 : v1.cell? ⟨w.heap.size + 1, 0, none⟩ = some (.int .i64 0) := cell_of_block g1 rfl
  have f23 : v1.cell? ⟨w.heap.size + 1, 1, none⟩ = some (.int .i64 0) := cell_of_block g1 rfl
  have d24 : v1.frozen? ⟨w.heap.size, 0, none⟩ = false := free_of_block g0
  have d25 : v1.frozen? ⟨w.heap.size, 1, none⟩ = false := free_of_block g0
  have d26 : v1.frozen? ⟨w.heap.size + 1, 0, none⟩ = false := free_of_block g1
  have d27 : v1.frozen? ⟨w.heap.size + 1, 1, none⟩ = false := free_of_block g1
  rw [rounds_succ]
  go_wp2
  clear f20 f21 f22 f23 d24 d25 d26 d27
  refine ret_at (fun ve hW2 => ?_)
  have g0n : ve.heap[w.heap.size]? = some (.cells #[.int .i64 (-ax), .int .i64 (-ay)] 23) := by rw [hW2]; exact set_other (set_other (g0) (by omega)) (by omega)
  have g1n : ve.heap[w.heap.size + 1]? = some (.cells #[.int .i64 (-ax), .int .i64 (-ay)] 23) := by rw [hW2]; exact set_block (set_block (g1))
  have hbn : Below w.heap.size w ve := by rw [hW2]; exact ((hb).setCell (by simp) _).setCell (by simp) _
  have hzn : w.heap.size + 2 ≤ ve.heap.size := by rw [hW2]; simp only [World.size_setCell]; exact hz
  clear hW2 hb hz g0 g1
  have g0 := g0n
  clear g0n
  have g1 := g1n
  clear g1n
  have hb := hbn
  have hz := hzn
  clear hbn hzn
  have r28 : ve.cell? ⟨w.heap.size + 1, 0, none⟩ = some (.int .i64 (-ax)) := cell_of_block g1 rfl
  have r29 : ve.cell? ⟨w.heap.size + 1, 1, none⟩ = some (.int .i64 (-ay)) := cell_of_block g1 rfl
  exact bodyPost_ret (v := .agg #[.int .i64 (-ax), .int .i64 (-ay)]) (by simp [results, Try.results10, go_sem, r28, r29]) rfl ⟨rfl, hb⟩


theorem turned_three (ax ay q : Int) (w : World) (h : mayB ax ay = true) (hq : q % 4 = 3) :
    Calls Try.prog 10 #[.agg #[.int .i64 ax, .int .i64 ay], .int .i64 q] w fun e w' => e = .returned (.agg #[.int .i64 ay, .int .i64 (-ax)]) ∧ Below w.heap.size w w' := by
  obtain ⟨q1, q2⟩ := mayB_x h
  obtain ⟨q3, q4⟩ := mayB_y h
  have hq := (and_three q).trans hq
  go_enter Try.func10, Try.ntmps10
  go_upto_region 1 with (fail)
  refine plain_hid (fun W hW ops hops => ?_)
  have hb : Below w.heap.size w W := by rw [hW]; go_grown
  have hz : w.heap.size + 2 ≤ W.heap.size := by rw [hW]; simp
  have g0 : W.heap[w.heap.size]? = some (.cells #[.int .i64 ax, .int .i64 ay] 23) := by rw [hW]; exact heap_alloc_lt (heap_alloc_is (rfl))
  have g1 : W.heap[w.heap.size + 1]? = some (.cells #[.int .i64 0, .int .i64 0] 23) := by rw [hW]; exact heap_alloc_is (by simp)
  clear hW
  clear hops
  have f0 : ∀ x : Later W [], x.w.cell? ⟨w.heap.size, 0, none⟩ = some (.int .i64 ax) := fun x => cell_of_block (Later.at0 g0 x) rfl
  have f1 : ∀ x : Later W [], x.w.cell? ⟨w.heap.size, 1, none⟩ = some (.int .i64 ay) := fun x => cell_of_block (Later.at0 g0 x) rfl
  have f2 : ∀ x : Later W [], x.w.cell? ⟨w.heap.size + 1, 0, none⟩ = some (.int .i64 0) := fun x => cell_of_block (Later.at0 g1 x) rfl
  have f3 : ∀ x : Later W [], x.w.cell? ⟨w.heap.size + 1, 1, none⟩ = some (.int .i64 0) := fun x => cell_of_block (Later.at0 g1 x) rfl
  repeat (refine walkT_step (fun K hK => ?_); go_simp; first | (refine hK _ _ ?_; clear hK K) | (refine ⟨_, fun x => may_any _ _ _, ?_⟩; refine hK _ _ ?_; clear hK K))
  refine walkT_nil ?_
  intro w1 hc
  replace g0 := hc.at0 g0
  replace g1 := hc.at0 g1
  replace hb := hb.trans (hc.below.mono hb.size)
  replace hz := Nat.le_trans hz hc.kept.size
  clear hc f0 f1 f2 f3 W
  have f4 : w1.cell? ⟨w.heap.size, 0, none⟩ = some (.int .i64 ax) := cell_of_block g0 rfl
  have f5 : w1.cell? ⟨w.heap.size, 1, none⟩ = some (.int .i64 ay) := cell_of_block g0 rfl
  have f6 : w1.cell? ⟨w.heap.size + 1, 0, none⟩ = some (.int .i64 0) := cell_of_block g1 rfl
  have f7 : w1.cell? ⟨w.heap.size + 1, 1, none⟩ = some (.int .i64 0) := cell_of_block g1 rfl
  have d8 : w1.frozen? ⟨w.heap.size, 0, none⟩ = false := free_of_block g0
  have d9 : w1.frozen? ⟨w.heap.size, 1, none⟩ = false := free_of_block g0
  have d10 : w1.frozen? ⟨w.heap.size + 1, 0, none⟩ = false := free_of_block g1
  have d11 : w1.frozen? ⟨w.heap.size + 1, 1, none⟩ = false := free_of_block g1
  go_wp2
  refine wp_loop_rounds 4 ?_
  rw [rounds_succ]
  go_wp2
  clear f4 f5 f6 f7 d8 d9 d10 d11
  refine rounds_at (fun v0 hW2 => ?_)
  have g0n : v0.heap[w.heap.size]? = some (.cells #[.int .i64 (-ay), .int .i64 ax] 23) := by rw [hW2]; exact set_block (set_block (g0))
  have g1n : v0.heap[w.heap.size + 1]? = some (.cells #[.int .i64 0, .int .i64 0] 23) := by rw [hW2]; exact set_other (set_other (g1) (by omega)) (by omega)
  have hbn : Below w.heap.size w v0 := by rw [hW2]; exact ((hb).setCell (by simp) _).setCell (by simp) _
  have hzn : w.heap.size + 2 ≤ v0.heap.size := by rw [hW2]; simp only [World.size_setCell]; exact hz
  clear hW2 hb hz g0 g1
  have g0 := g0n
  clear g0n
  have g1 := g1n
  clear g1n
  have hb := hbn
  have hz := hzn
  clear hbn hzn
  have f12 : v0.cell? ⟨w.heap.size, 0, none⟩ = some (.int .i64 (-ay)) := cell_of_block g0 rfl
  have f13 : v0.cell? ⟨w.heap.size, 1, none⟩ = some (.int .i64 ax) := cell_of_block g0 rfl
  have f14 : v0.cell? ⟨w.heap.size + 1, 0, none⟩ = some (.int .i64 0) := cell_of_block g1 rfl
  have f15 : v0.cell? ⟨w.heap.size + 1, 1, none⟩ = some (.int .i64 0) := cell_of_block g1 rfl
  have d16 : v0.frozen? ⟨w.heap.size, 0, none⟩ = false := free_of_block g0
  have d17 : v0.frozen? ⟨w.heap.size, 1, none⟩ = false := free_of_block g0
  have d18 : v0.frozen? ⟨w.heap.size + 1, 0, none⟩ = false := free_of_block g1
  have d19 : v0.frozen? ⟨w.heap.size + 1, 1, none⟩ = false := free_of_block g1
  rw [rounds_succ]
  go_wp2
  clear f12 f13 f14 f15 d16 d17 d18 d19
  refine rounds_at (fun v1 hW2 => ?_)
  have g0n : v1.heap[w.heap.size]? = some (.cells #[.int .i64 (-ax), .int .i64 (-ay)] 23) := by rw [hW2]; exact set_block (set_block (g0))
  have g1n : v1.heap[w.heap.size + 1]? = some (.cells #[.int .i64 0, .int .i64 0] 23) := by rw [hW2]; exact set_other (set_other (g1) (by omega)) (by omega)
  have hbn : Below w.heap.size w v1 := by rw [hW2]; exact ((hb).setCell (by simp) _).setCell (by simp) _
  have hzn : w.heap.size + 2 ≤ v1.heap.size := by rw [hW2]; simp only [World.size_setCell]; exact hz
  clear hW2 hb hz g0 g1
  have g0 := g0n
  clear g0n
  have g1 := g1n
  clear g1n
  have hb := hbn
  have hz := hzn
  clear hbn hzn
  have f20 : v1.cell? ⟨w.heap.size, 0, none⟩ = some (.int .i64 (-ax)) := cell_of_block g0 rfl
  have f21 : v1.cell? ⟨w.heap.size, 1, none⟩ = some (.int .i64 (-ay)) := cell_of_block g0 rfl
  have f22 : v1.cell? ⟨w.heap.size + 1, 0, none⟩ = some (.int .i64 0) := cell_of_block g1 rfl
  have f23 : v1.cell? ⟨w.heap.size + 1, 1, none⟩ = some (.int .i64 0) := cell_of_block g1 rfl
  have d24 : v1.frozen? ⟨w.heap.size, 0, none⟩ = false := free_of_block g0
  have d25 : v1.frozen? ⟨w.heap.size, 1, none⟩ = false := free_of_block g0
  have d26 : v1.frozen? ⟨w.heap.size + 1, 0, none⟩ = false := free_of_block g1
  have d27 : v1.frozen? ⟨w.heap.size + 1, 1, none⟩ = false := free_of_block g1
  rw [rounds_succ]
  go_wp2
  clear f20 f21 f22 f23 d24 d25 d26 d27
  refine rounds_at (fun v2 hW2 => ?_)
  have g0n : v2.heap[w.heap.size]? = some (.cells #[.int .i64 ay, .int .i64 (-ax)] 23) := by rw [hW2]; exact set_block (set_block (g0))
  have g1n : v2.heap[w.heap.size + 1]? = some (.cells #[.int .i64 0, .int .i64 0] 23) := by rw [hW2]; exact set_other (set_other (g1) (by omega)) (by omega)
  have hbn : Below w.heap.size w v2 := by rw [hW2]; exact ((hb).setCell (by simp) _).setCell (by simp) _
  have hzn : w.heap.size + 2 ≤ v2.heap.size := by rw [hW2]; simp only [World.size_setCell]; exact hz
  clear hW2 hb hz g0 g1
  have g0 := g0n
  clear g0n
  have g1 := g1n
  clear g1n
  have hb := hbn
  have hz := hzn
  clear hbn hzn
  have f28 : v2.cell? ⟨w.heap.size, 0, none⟩ = some (.int .i64 ay) := cell_of_block g0 rfl
  have f29 : v2.cell? ⟨w.heap.size, 1, none⟩ = some (.int .i64 (-ax)) := cell_of_block g0 rfl
  have f30 : v2.cell? ⟨w.heap.size + 1, 0, none⟩ = some (.int .i64 0) := cell_of_block g1 rfl
  have f31 : v2.cell? ⟨w.heap.size + 1, 1, none⟩ = some (.int .i64 0) := cell_of_block g1 rfl
  have d32 : v2.frozen? ⟨w.heap.size, 0, none⟩ = false := free_of_block g0
  have d33 : v2.frozen? ⟨w.heap.size, 1, none⟩ = false := free_of_block g0
  have d34 : v2.frozen? ⟨w.heap.size + 1, 0, none⟩ = false := free_of_block g1
  have d35 : v2.frozen? ⟨w.heap.size + 1, 1, none⟩ = false := free_of_block g1
  rw [rounds_succ]
  go_wp2
  clear f28 f29 f30 f31 d32 d33 d34 d35
  refine ret_at (fun ve hW2 => ?_)
  have g0n : ve.heap[w.heap.size]? = some (.cells #[.int .i64 ay, .int .i64 (-ax)] 23) := by rw [hW2]; exact set_other (set_other (g0) (by omega)) (by omega)
  have g1n : ve.heap[w.heap.size + 1]? = some (.cells #[.int .i64 ay, .int .i64 (-ax)] 23) := by rw [hW2]; exact set_block (set_block (g1))
  have hbn : Below w.heap.size w ve := by rw [hW2]; exact ((hb).setCell (by simp) _).setCell (by simp) _
  have hzn : w.heap.size + 2 ≤ ve.heap.size := by rw [hW2]; simp only [World.size_setCell]; exact hz
  clear hW2 hb hz g0 g1
  have g0 := g0n
  clear g0n
  have g1 := g1n
  clear g1n
  have hb := hbn
  have hz := hzn
  clear hbn hzn
  have r36 : ve.cell? ⟨w.heap.size + 1, 0, none⟩ = some (.int .i64 ay) := cell_of_block g1 rfl
  have r37 : ve.cell? ⟨w.heap.size + 1, 1, none⟩ = some (.int .i64 (-ax)) := cell_of_block g1 rfl
  exact bodyPost_ret (v := .agg #[.int .i64 ay, .int .i64 (-ax)]) (by simp [results, Try.results10, go_sem, r36, r37]) rfl ⟨rfl, hb⟩

end Go.Proofs.Ytcpjgcpclekjkaa
