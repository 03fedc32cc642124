/-
  WALKS OF SIDES AND OF POINTS ON A LINE. CONDITIONS: none.
-/
import Derived.Test.YtcpjgcpclekjkaaOriPlain
namespace Go.Proofs.Ytcpjgcpclekjkaa
open Go.RowKit Go.Proofs.Ytcpjgcpclekjkaa.Tame
set_option maxHeartbeats 400000

theorem isnan_any (a : Int) (w : World) : Calls Try.prog 45 #[.int .i64 a] w fun e w' => e = .returned (.bool false) ∧ w = w' := by
  go_enter Try.func45, Try.ntmps45
  go_wp2
  go_ret
  exact ⟨ret_bool (by simp), rfl⟩


theorem compare_any (a b : Int) (w : World) : Calls Try.prog 43 #[.int .i64 a, .int .i64 b] w fun e w' => e = .returned (.int .i64 (cmpI a b)) ∧ Below w.heap.size w w' := by
  unfold cmpI
  by_cases h1 : a < b
  · rw [if_pos h1]
    go_enter Try.func43, Try.ntmps43
    go_wp2_with (go_at_call 45; refine (isnan_any _ _).mono ?_; rintro e w' ⟨rfl, rfl⟩)
    go_ret
    exact ⟨rfl, Below.refl _ _⟩
  by_cases h2 : b < a
  · rw [if_neg h1, if_pos h2]
    go_enter Try.func43, Try.ntmps43
    go_wp2_with (go_at_call 45; refine (isnan_any _ _).mono ?_; rintro e w' ⟨rfl, rfl⟩)
    go_ret
    exact ⟨rfl, Below.refl _ _⟩
  · rw [if_neg h1, if_neg h2]
    go_enter Try.func43, Try.ntmps43
    go_wp2_with (go_at_call 45; refine (isnan_any _ _).mono ?_; rintro e w' ⟨rfl, rfl⟩)
    go_ret
    exact ⟨rfl, Below.refl _ _⟩


theorem sign_any (a : Int) (w : World) : Calls Try.prog 28 #[.int .i64 a] w fun e w' => e = .returned (.int .i64 (cmpI a 0)) ∧ Below w.heap.size w w' := by
  unfold cmpI
  by_cases h1 : a < 0
  · rw [if_pos h1]
    go_enter Try.func28, Try.ntmps28
    go_wp2
    go_ret
    exact ⟨rfl, Below.refl _ _⟩
  by_cases h2 : 0 < a
  · rw [if_neg h1, if_pos h2]
    go_enter Try.func28, Try.ntmps28
    go_wp2
    go_ret
    exact ⟨rfl, Below.refl _ _⟩
  · rw [if_neg h1, if_neg h2]
    go_enter Try.func28, Try.ntmps28
    go_wp2
    go_ret
    exact ⟨rfl, Below.refl _ _⟩


theorem side_any (ax ay bx by' cx cy : Int) (w : World) : Calls Try.prog 29 #[.agg #[.int .i64 ax, .int .i64 ay], .agg #[.int .i64 bx, .int .i64 by'], .agg #[.int .i64 cx, .int .i64 cy]] w fun e w' => e = .returned (.int .i64 (cmpI (crossI ax ay bx by' cx cy) 0)) ∧ Below w.heap.size w w' := by
  go_enter Try.func29, Try.ntmps29
  go_upto_region 1 with (fail)
  refine plain_hid (fun W hW ops hops => ?_)
  have hb : Below w.heap.size w W := by rw [hW]; go_grown
  have hz : w.heap.size + 3 ≤ W.heap.size := by rw [hW]; simp
  have g0 : W.heap[w.heap.size]? = some (.cells #[.int .i64 ax, .int .i64 ay] 23) := by rw [hW]; exact heap_alloc_lt (heap_alloc_lt (heap_alloc_is (rfl)))
  have g1 : W.heap[w.heap.size + 1]? = some (.cells #[.int .i64 bx, .int .i64 by'] 23) := by rw [hW]; exact heap_alloc_lt (heap_alloc_is (by simp))
  have g2 : W.heap[w.heap.size + 1 + 1]? = some (.cells #[.int .i64 cx, .int .i64 cy] 23) := by rw [hW]; exact heap_alloc_is (by simp)
  clear hW
  clear hops
  have f0 : ∀ x : Later W [], x.w.cell? ⟨w.heap.size, 0, none⟩ = some (.int .i64 ax) := fun x => cell_of_block (Later.at0 g0 x) rfl
  have f1 : ∀ x : Later W [], x.w.cell? ⟨w.heap.size, 1, none⟩ = some (.int .i64 ay) := fun x => cell_of_block (Later.at0 g0 x) rfl
  have f2 : ∀ x : Later W [], x.w.cell? ⟨w.heap.size + 1, 0, none⟩ = some (.int .i64 bx) := fun x => cell_of_block (Later.at0 g1 x) rfl
  have f3 : ∀ x : Later W [], x.w.cell? ⟨w.heap.size + 1, 1, none⟩ = some (.int .i64 by') := fun x => cell_of_block (Later.at0 g1 x) rfl
  have f4 : ∀ x : Later W [], x.w.cell? ⟨w.heap.size + 1 + 1, 0, none⟩ = some (.int .i64 cx) := fun x => cell_of_block (Later.at0 g2 x) rfl
  have f5 : ∀ x : Later W [], x.w.cell? ⟨w.heap.size + 1 + 1, 1, none⟩ = some (.int .i64 cy) := fun x => cell_of_block (Later.at0 g2 x) rfl
  repeat (refine walkT_step (fun K hK => ?_); go_simp; first | (refine hK _ _ ?_; clear hK K) | (refine ⟨_, fun x => cross_any _ _ _ _ _ _ _, ?_⟩; refine hK _ _ ?_; clear hK K) | (refine ⟨_, fun x => compare_any _ _ _, ?_⟩; refine hK _ _ ?_; clear hK K))
  refine walkT_nil ?_
  intro w1 hc
  replace g0 := hc.at0 g0
  replace g1 := hc.at0 g1
  replace g2 := hc.at0 g2
  replace hb := hb.trans (hc.below.mono hb.size)
  replace hz := Nat.le_trans hz hc.kept.size
  clear hc f0 f1 f2 f3 f4 f5 W
  go_wp2
  go_ret
  exact ⟨rfl, hb⟩


theorem refside_any (ax ay bx by' cx cy : Int) (w : World) : Calls Try.prog 30 #[.agg #[.int .i64 ax, .int .i64 ay], .agg #[.int .i64 bx, .int .i64 by'], .agg #[.int .i64 cx, .int .i64 cy]] w fun e w' => e = .returned (.int .i64 (cmpI (crossI ax ay bx by' cx cy) 0)) ∧ Below w.heap.size w w' := by
  go_enter Try.func30, Try.ntmps30
  go_upto_region 1 with (fail)
  refine plain_hid (fun W hW ops hops => ?_)
  have hb : Below w.heap.size w W := by rw [hW]; go_grown
  have hz : w.heap.size + 3 ≤ W.heap.size := by rw [hW]; simp
  have g0 : W.heap[w.heap.size]? = some (.cells #[.int .i64 ax, .int .i64 ay] 23) := by rw [hW]; exact heap_alloc_lt (heap_alloc_lt (heap_alloc_is (rfl)))
  have g1 : W.heap[w.heap.size + 1]? = some (.cells #[.int .i64 bx, .int .i64 by'] 23) := by rw [hW]; exact heap_alloc_lt (heap_alloc_is (by simp))
  have g2 : W.heap[w.heap.size + 1 + 1]? = some (.cells #[.int .i64 cx, .int .i64 cy] 23) := by rw [hW]; exact heap_alloc_is (by simp)
  clear hW
  clear hops
  have f0 : ∀ x : Later W [], x.w.cell? ⟨w.heap.size, 0, none⟩ = some (.int .i64 ax) := fun x => cell_of_block (Later.at0 g0 x) rfl
  have f1 : ∀ x : Later W [], x.w.cell? ⟨w.heap.size, 1, none⟩ = some (.int .i64 ay) := fun x => cell_of_block (Later.at0 g0 x) rfl
  have f2 : ∀ x : Later W [], x.w.cell? ⟨w.heap.size + 1, 0, none⟩ = some (.int .i64 bx) := fun x => cell_of_block (Later.at0 g1 x) rfl
  have f3 : ∀ x : Later W [], x.w.cell? ⟨w.heap.size + 1, 1, none⟩ = some (.int .i64 by') := fun x => cell_of_block (Later.at0 g1 x) rfl
  have f4 : ∀ x : Later W [], x.w.cell? ⟨w.heap.size + 1 + 1, 0, none⟩ = some (.int .i64 cx) := fun x => cell_of_block (Later.at0 g2 x) rfl
  have f5 : ∀ x : Later W [], x.w.cell? ⟨w.heap.size + 1 + 1, 1, none⟩ = some (.int .i64 cy) := fun x => cell_of_block (Later.at0 g2 x) rfl
  repeat (refine walkT_step (fun K hK => ?_); go_simp; first | (refine hK _ _ ?_; clear hK K) | (refine ⟨_, fun x => refcross_any _ _ _ _ _ _ _, ?_⟩; refine hK _ _ ?_; clear hK K) | (refine ⟨_, fun x => sign_any _ _, ?_⟩; refine hK _ _ ?_; clear hK K))
  refine walkT_nil ?_
  intro w1 hc
  replace g0 := hc.at0 g0
  replace g1 := hc.at0 g1
  replace g2 := hc.at0 g2
  replace hb := hb.trans (hc.below.mono hb.size)
  replace hz := Nat.le_trans hz hc.kept.size
  clear hc f0 f1 f2 f3 f4 f5 W
  go_wp2
  go_ret
  exact ⟨rfl, hb⟩


theorem on_no (ax ay bx by' px py : Int) (w : World) (h : (lineB ax ay bx by' && mayB px py && (crossI ax ay bx by' px py == 0)) = false) : Calls Try.prog 31 #[.agg #[.int .i64 ax, .int .i64 ay, .int .i64 bx, .int .i64 by'], .agg #[.int .i64 px, .int .i64 py]] w fun e w' => e = .returned (.bool false) ∧ Below w.heap.size w w' := by
  have hne := cmp_ne (crossI ax ay bx by' px py)
  cases h1 : lineB ax ay bx by' <;> cases h2 : mayB px py <;> cases h3 : (crossI ax ay bx by' px py == 0) <;> rw [h1, h2, h3] at h <;> first | (exfalso; revert h; decide) | skip
  all_goals
    clear h
    go_enter Try.func31, Try.ntmps31
    go_upto_region 1 with (fail)
    refine plain_hid (fun W hW ops hops => ?_)
    have hb : Below w.heap.size w W := by rw [hW]; go_grown
    have hz : w.heap.size + 2 ≤ W.heap.size := by rw [hW]; simp
    have g0 : W.heap[w.heap.size]? = some (.cells #[.int .i64 ax, .int .i64 ay, .int .i64 bx, .int .i64 by'] 34) := by rw [hW]; exact heap_alloc_lt (heap_alloc_is (rfl))
    have g1 : W.heap[w.heap.size + 1]? = some (.cells #[.int .i64 px, .int .i64 py] 23) := by rw [hW]; exact heap_alloc_is (by simp)
    clear hW
    have o3 : (ops[3]?).bind (fun x => x.dst) = some 10 := by rw [hops]; rfl
    have o8 : (ops[8]?).bind (fun x => x.dst) = some 15 := by rw [hops]; rfl
    clear hops
    have f0 : ∀ x : Later W [], x.w.cell? ⟨w.heap.size, 0, none⟩ = some (.int .i64 ax) := fun x => cell_of_block (Later.at0 g0 x) rfl
    have f1 : ∀ x : Later W [], x.w.cell? ⟨w.heap.size, 1, none⟩ = some (.int .i64 ay) := fun x => cell_of_block (Later.at0 g0 x) rfl
    have f2 : ∀ x : Later W [], x.w.cell? ⟨w.heap.size, 2, none⟩ = some (.int .i64 bx) := fun x => cell_of_block (Later.at0 g0 x) rfl
    have f3 : ∀ x : Later W [], x.w.cell? ⟨w.heap.size, 3, none⟩ = some (.int .i64 by') := fun x => cell_of_block (Later.at0 g0 x) rfl
    have f4 : ∀ x : Later W [], x.w.cell? ⟨w.heap.size + 1, 0, none⟩ = some (.int .i64 px) := fun x => cell_of_block (Later.at0 g1 x) rfl
    have f5 : ∀ x : Later W [], x.w.cell? ⟨w.heap.size + 1, 1, none⟩ = some (.int .i64 py) := fun x => cell_of_block (Later.at0 g1 x) rfl
    repeat (refine walkT_step (fun K hK => ?_); go_simp; first | (refine hK _ _ ?_; clear hK K) | (refine ⟨_, fun x => line_any _ _ _ _ _, ?_⟩; refine hK _ _ ?_; clear hK K) | (refine ⟨_, fun x => may_any _ _ _, ?_⟩; refine hK _ _ ?_; clear hK K) | (refine ⟨_, fun x => side_any _ _ _ _ _ _ _, ?_⟩; refine hK _ _ ?_; clear hK K))
    refine walkT_nil ?_
    intro w1 hc
    replace g0 := hc.at0 g0
    replace g1 := hc.at0 g1
    replace hb := hb.trans (hc.below.mono hb.size)
    replace hz := Nat.le_trans hz hc.kept.size
    clear hc o3 o8 f0 f1 f2 f3 f4 f5 W
    go_wp2
    go_ret
    exact ⟨rfl, hb⟩


set_option maxHeartbeats 2000000 in
theorem on_yes (ax ay bx by' px py : Int) (w : World) (h1 : lineB ax ay bx by' = true) (h2 : mayB px py = true) (h3 : (crossI ax ay bx by' px py == 0) = true) : Calls Try.prog 31 #[.agg #[.int .i64 ax, .int .i64 ay, .int .i64 bx, .int .i64 by'], .agg #[.int .i64 px, .int .i64 py]] w fun e w' => e = .returned (.bool (decide (minI ax bx ≤ px) && decide (px ≤ maxI ax bx) && decide (minI ay by' ≤ py) && decide (py ≤ maxI ay by'))) ∧ Below w.heap.size w w' := by
  have hne := cmp_ne (crossI ax ay bx by' px py)
  go_enter Try.func31, Try.ntmps31
  go_upto_region 1 with (fail)
  refine plain_hid (fun W hW ops hops => ?_)
  have hb : Below w.heap.size w W := by rw [hW]; go_grown
  have hz : w.heap.size + 2 ≤ W.heap.size := by rw [hW]; simp
  have g0 : W.heap[w.heap.size]? = some (.cells #[.int .i64 ax, .int .i64 ay, .int .i64 bx, .int .i64 by'] 34) := by rw [hW]; exact heap_alloc_lt (heap_alloc_is (rfl))
  have g1 : W.heap[w.heap.size + 1]? = some (.cells #[.int .i64 px, .int .i64 py] 23) := by rw [hW]; exact heap_alloc_is (by simp)
  clear hW
  have o3 : (ops[3]?).bind (fun x => x.dst) = some 10 := by rw [hops]; rfl
  have o8 : (ops[8]?).bind (fun x => x.dst) = some 15 := by rw [hops]; rfl
  clear hops
  have f0 : ∀ x : Later W [], x.w.cell? ⟨w.heap.size, 0, none⟩ = some (.int .i64 ax) := fun x => cell_of_block (Later.at0 g0 x) rfl
  have f1 : ∀ x : Later W [], x.w.cell? ⟨w.heap.size, 1, none⟩ = some (.int .i64 ay) := fun x => cell_of_block (Later.at0 g0 x) rfl
  have f2 : ∀ x : Later W [], x.w.cell? ⟨w.heap.size, 2, none⟩ = some (.int .i64 bx) := fun x => cell_of_block (Later.at0 g0 x) rfl
  have f3 : ∀ x : Later W [], x.w.cell? ⟨w.heap.size, 3, none⟩ = some (.int .i64 by') := fun x => cell_of_block (Later.at0 g0 x) rfl
  have f4 : ∀ x : Later W [], x.w.cell? ⟨w.heap.size + 1, 0, none⟩ = some (.int .i64 px) := fun x => cell_of_block (Later.at0 g1 x) rfl
  have f5 : ∀ x : Later W [], x.w.cell? ⟨w.heap.size + 1, 1, none⟩ = some (.int .i64 py) := fun x => cell_of_block (Later.at0 g1 x) rfl
  repeat (refine walkT_step (fun K hK => ?_); go_simp; first | (refine hK _ _ ?_; clear hK K) | (refine ⟨_, fun x => line_any _ _ _ _ _, ?_⟩; refine hK _ _ ?_; clear hK K) | (refine ⟨_, fun x => may_any _ _ _, ?_⟩; refine hK _ _ ?_; clear hK K) | (refine ⟨_, fun x => side_any _ _ _ _ _ _ _, ?_⟩; refine hK _ _ ?_; clear hK K))
  refine walkT_nil ?_
  intro w1 hc
  replace g0 := hc.at0 g0
  replace g1 := hc.at0 g1
  replace hb := hb.trans (hc.below.mono hb.size)
  replace hz := Nat.le_trans hz hc.kept.size
  clear hc o3 o8 f0 f1 f2 f3 f4 f5 W
  go_upto_region 3 with (fail)
  refine plain_hid (fun W hW ops hops => ?_)
  subst hW
  clear hops
  have f6 : ∀ x : Later W [], x.w.cell? ⟨w.heap.size, 0, none⟩ = some (.int .i64 ax) := fun x => cell_of_block (Later.at0 g0 x) rfl
  have f7 : ∀ x : Later W [], x.w.cell? ⟨w.heap.size, 1, none⟩ = some (.int .i64 ay) := fun x => cell_of_block (Later.at0 g0 x) rfl
  have f8 : ∀ x : Later W [], x.w.cell? ⟨w.heap.size, 2, none⟩ = some (.int .i64 bx) := fun x => cell_of_block (Later.at0 g0 x) rfl
  have f9 : ∀ x : Later W [], x.w.cell? ⟨w.heap.size, 3, none⟩ = some (.int .i64 by') := fun x => cell_of_block (Later.at0 g0 x) rfl
  have f10 : ∀ x : Later W [], x.w.cell? ⟨w.heap.size + 1, 0, none⟩ = some (.int .i64 px) := fun x => cell_of_block (Later.at0 g1 x) rfl
  have f11 : ∀ x : Later W [], x.w.cell? ⟨w.heap.size + 1, 1, none⟩ = some (.int .i64 py) := fun x => cell_of_block (Later.at0 g1 x) rfl
  repeat (refine walkT_step (fun K hK => ?_); go_simp; first | (refine hK _ _ ?_; clear hK K) | (refine ⟨_, fun x => box_any _ _ _ _ _, ?_⟩; refine hK _ _ ?_; clear hK K))
  refine walkT_step (fun K hK => ?_)
  go_simp
  refine ⟨_, fun _ => rfl, fun k5 hk5 nk5 => hK _ _ ?_⟩; clear hK K
  refine walkT_step (fun K hK => ?_)
  go_simp
  refine ⟨_, fun _ => rfl, fun k6 hk6 nk6 => hK _ _ ?_⟩; clear hK K
  have ne_k6_k5 : k6 ≠ k5 := fun e => by subst e; simp [Gh.set] at nk6
  have ne_k5_k6 : k5 ≠ k6 := Ne.symm ne_k6_k5
  clear nk5 nk6
  refine walkT_fill (k := k5) (ob := #[.int .i64 0, .int .i64 0]) (t := 23) (v := .agg #[.int .i64 (bminI ax ay bx by' (minI ax bx)), .int .i64 (bminI ax ay bx by' (minI ay by'))]) rfl rfl rfl rfl ((Gh.set_ne _ _ ne_k5_k6).trans (Gh.set_same _ _ _)) rfl (by kernel_rfl) rfl rfl ?_
  refine walkT_fill (k := k6) (ob := #[.int .i64 0, .int .i64 0]) (t := 23) (v := .agg #[.int .i64 (bminI ax ay bx by' (maxI ax bx)), .int .i64 (bminI ax ay bx by' (maxI ay by'))]) rfl rfl rfl rfl ((Gh.set_ne _ _ ne_k6_k5).trans (Gh.set_same _ _ _)) rfl (by kernel_rfl) rfl rfl ?_
  refine walkT_nil ?_
  intro w1 hc
  replace g0 := hc.at0 g0
  replace g1 := hc.at0 g1
  have g2 : w1.heap[k5]? = some (.cells #[.int .i64 (bminI ax ay bx by' (minI ax bx)), .int .i64 (bminI ax ay bx by' (minI ay by'))] 23) := (hc.own (k5) _ true ((Gh.set_ne _ _ ne_k5_k6).trans (Gh.set_same _ _ _))).2
  have g3 : w1.heap[k6]? = some (.cells #[.int .i64 (bminI ax ay bx by' (maxI ax bx)), .int .i64 (bminI ax ay bx by' (maxI ay by'))] 23) := (hc.own (k6) _ true (Gh.set_same _ _ _)).2
  replace hb := hb.trans (hc.below.mono hb.size)
  replace hk5 := Nat.le_trans hz hk5
  replace hk6 := Nat.le_trans hz hk6
  replace hz := Nat.le_trans hz hc.kept.size
  clear hc f6 f7 f8 f9 f10 f11 W
  have e0 : bminI ax ay bx by' (minI ax bx) = minI ax bx := if_pos h1
  have e1 : bminI ax ay bx by' (minI ay by') = minI ay by' := if_pos h1
  have e2 : bminI ax ay bx by' (maxI ax bx) = maxI ax bx := if_pos h1
  have e3 : bminI ax ay bx by' (maxI ay by') = maxI ay by' := if_pos h1
  go_upto_region 4 with (fail)
  refine plain_hid (fun W hW ops hops => ?_)
  subst hW
  have o5 : (ops[5]?).bind (fun x => x.dst) = some 34 := by rw [hops]; rfl
  have o12 : (ops[12]?).bind (fun x => x.dst) = some 41 := by rw [hops]; rfl
  have o19 : (ops[19]?).bind (fun x => x.dst) = some 48 := by rw [hops]; rfl
  clear hops
  have f12 : ∀ x : Later W [], x.w.cell? ⟨w.heap.size, 0, none⟩ = some (.int .i64 ax) := fun x => cell_of_block (Later.at0 g0 x) rfl
  have f13 : ∀ x : Later W [], x.w.cell? ⟨w.heap.size, 1, none⟩ = some (.int .i64 ay) := fun x => cell_of_block (Later.at0 g0 x) rfl
  have f14 : ∀ x : Later W [], x.w.cell? ⟨w.heap.size, 2, none⟩ = some (.int .i64 bx) := fun x => cell_of_block (Later.at0 g0 x) rfl
  have f15 : ∀ x : Later W [], x.w.cell? ⟨w.heap.size, 3, none⟩ = some (.int .i64 by') := fun x => cell_of_block (Later.at0 g0 x) rfl
  have f16 : ∀ x : Later W [], x.w.cell? ⟨w.heap.size + 1, 0, none⟩ = some (.int .i64 px) := fun x => cell_of_block (Later.at0 g1 x) rfl
  have f17 : ∀ x : Later W [], x.w.cell? ⟨w.heap.size + 1, 1, none⟩ = some (.int .i64 py) := fun x => cell_of_block (Later.at0 g1 x) rfl
  have f18 : ∀ x : Later W [], x.w.cell? ⟨k5, 0, none⟩ = some (.int .i64 (bminI ax ay bx by' (minI ax bx))) := fun x => cell_of_block (Later.at0 g2 x) rfl
  have f19 : ∀ x : Later W [], x.w.cell? ⟨k5, 1, none⟩ = some (.int .i64 (bminI ax ay bx by' (minI ay by'))) := fun x => cell_of_block (Later.at0 g2 x) rfl
  have f20 : ∀ x : Later W [], x.w.cell? ⟨k6, 0, none⟩ = some (.int .i64 (bminI ax ay bx by' (maxI ax bx))) := fun x => cell_of_block (Later.at0 g3 x) rfl
  have f21 : ∀ x : Later W [], x.w.cell? ⟨k6, 1, none⟩ = some (.int .i64 (bminI ax ay bx by' (maxI ay by'))) := fun x => cell_of_block (Later.at0 g3 x) rfl
  cases c1 : decide (minI ax bx ≤ px) <;> cases c2 : decide (px ≤ maxI ax bx) <;> cases c3 : decide (minI ay by' ≤ py)
  all_goals
    have c1' := c1
    have c2' := c2
    have c3' := c3
    simp only [decide_eq_true_eq, decide_eq_false_iff_not] at c1' c2' c3'
    repeat (refine walkT_step (fun K hK => ?_); go_simp; first | (refine hK _ _ ?_; clear hK K))
    refine walkT_nil ?_
    intro w2 hc
    replace g0 := hc.at0 g0
    replace g1 := hc.at0 g1
    replace g2 := hc.at0 g2
    replace g3 := hc.at0 g3
    replace hb := hb.trans (hc.below.mono hb.size)
    replace hz := Nat.le_trans hz hc.kept.size
    clear hc o5 o12 o19 f12 f13 f14 f15 f16 f17 f18 f19 f20 f21 W
    go_wp2
    go_ret
    exact ⟨ret_bool (by first | rfl | (rw [c1] <;> rfl) | (rw [c1, c2] <;> rfl) | (rw [c1, c2, c3] <;> rfl)), hb⟩

theorem on_any (ax ay bx by' px py : Int) (w : World) : Calls Try.prog 31 #[.agg #[.int .i64 ax, .int .i64 ay, .int .i64 bx, .int .i64 by'], .agg #[.int .i64 px, .int .i64 py]] w fun e w' => e = .returned (.bool (onB ax ay bx by' px py)) ∧ Below w.heap.size w w' := by
  rw [on_eq]
  cases h : (lineB ax ay bx by' && mayB px py && (crossI ax ay bx by' px py == 0))
  · exact on_no ax ay bx by' px py w h
  · simp only [Bool.and_eq_true] at h
    exact on_yes ax ay bx by' px py w h.1.1 h.1.2 h.2


theorem refon_no (ax ay bx by' px py : Int) (w : World) (h : (lineB ax ay bx by' && mayB px py) = false) : Calls Try.prog 27 #[.agg #[.int .i64 ax, .int .i64 ay, .int .i64 bx, .int .i64 by'], .agg #[.int .i64 px, .int .i64 py]] w fun e w' => e = .returned (.bool false) ∧ Below w.heap.size w w' := by
  cases h1 : lineB ax ay bx by' <;> cases h2 : mayB px py <;> rw [h1, h2] at h <;> first | (exfalso; revert h; decide) | skip
  all_goals
    clear h
    go_enter Try.func27, Try.ntmps27
    go_upto_region 1 with (fail)
    refine plain_hid (fun W hW ops hops => ?_)
    have hb : Below w.heap.size w W := by rw [hW]; go_grown
    have hz : w.heap.size + 2 ≤ W.heap.size := by rw [hW]; simp
    have g0 : W.heap[w.heap.size]? = some (.cells #[.int .i64 ax, .int .i64 ay, .int .i64 bx, .int .i64 by'] 34) := by rw [hW]; exact heap_alloc_lt (heap_alloc_is (rfl))
    have g1 : W.heap[w.heap.size + 1]? = some (.cells #[.int .i64 px, .int .i64 py] 23) := by rw [hW]; exact heap_alloc_is (by simp)
    clear hW
    have o3 : (ops[3]?).bind (fun x => x.dst) = some 9 := by rw [hops]; rfl
    clear hops
    have f0 : ∀ x : Later W [], x.w.cell? ⟨w.heap.size, 0, none⟩ = some (.int .i64 ax) := fun x => cell_of_block (Later.at0 g0 x) rfl
    have f1 : ∀ x : Later W [], x.w.cell? ⟨w.heap.size, 1, none⟩ = some (.int .i64 ay) := fun x => cell_of_block (Later.at0 g0 x) rfl
    have f2 : ∀ x : Later W [], x.w.cell? ⟨w.heap.size, 2, none⟩ = some (.int .i64 bx) := fun x => cell_of_block (Later.at0 g0 x) rfl
    have f3 : ∀ x : Later W [], x.w.cell? ⟨w.heap.size, 3, none⟩ = some (.int .i64 by') := fun x => cell_of_block (Later.at0 g0 x) rfl
    have f4 : ∀ x : Later W [], x.w.cell? ⟨w.heap.size + 1, 0, none⟩ = some (.int .i64 px) := fun x => cell_of_block (Later.at0 g1 x) rfl
    have f5 : ∀ x : Later W [], x.w.cell? ⟨w.heap.size + 1, 1, none⟩ = some (.int .i64 py) := fun x => cell_of_block (Later.at0 g1 x) rfl
    repeat (refine walkT_step (fun K hK => ?_); go_simp; first | (refine hK _ _ ?_; clear hK K) | (refine ⟨_, fun x => refline_any _ _ _ _ _, ?_⟩; refine hK _ _ ?_; clear hK K) | (refine ⟨_, fun x => refmay_any _ _ _, ?_⟩; refine hK _ _ ?_; clear hK K))
    refine walkT_nil ?_
    intro w1 hc
    replace g0 := hc.at0 g0
    replace g1 := hc.at0 g1
    replace hb := hb.trans (hc.below.mono hb.size)
    replace hz := Nat.le_trans hz hc.kept.size
    clear hc o3 f0 f1 f2 f3 f4 f5 W
    go_wp2
    go_ret
    exact ⟨rfl, hb⟩


set_option maxHeartbeats 2000000 in
theorem refon_yes (ax ay bx by' px py : Int) (w : World) (h1 : lineB ax ay bx by' = true) (h2 : mayB px py = true) : Calls Try.prog 27 #[.agg #[.int .i64 ax, .int .i64 ay, .int .i64 bx, .int .i64 by'], .agg #[.int .i64 px, .int .i64 py]] w fun e w' => e = .returned (.bool ((crossI ax ay bx by' px py == 0) && decide (0 ≤ dotI ax ay bx by' px py) && decide (dotI ax ay bx by' px py ≤ dotI ax ay bx by' bx by'))) ∧ Below w.heap.size w w' := by
  go_enter Try.func27, Try.ntmps27
  go_upto_region 1 with (fail)
  refine plain_hid (fun W hW ops hops => ?_)
  have hb : Below w.heap.size w W := by rw [hW]; go_grown
  have hz : w.heap.size + 2 ≤ W.heap.size := by rw [hW]; simp
  have g0 : W.heap[w.heap.size]? = some (.cells #[.int .i64 ax, .int .i64 ay, .int .i64 bx, .int .i64 by'] 34) := by rw [hW]; exact heap_alloc_lt (heap_alloc_is (rfl))
  have g1 : W.heap[w.heap.size + 1]? = some (.cells #[.int .i64 px, .int .i64 py] 23) := by rw [hW]; exact heap_alloc_is (by simp)
  clear hW
  have o3 : (ops[3]?).bind (fun x => x.dst) = some 9 := by rw [hops]; rfl
  clear hops
  have f0 : ∀ x : Later W [], x.w.cell? ⟨w.heap.size, 0, none⟩ = some (.int .i64 ax) := fun x => cell_of_block (Later.at0 g0 x) rfl
  have f1 : ∀ x : Later W [], x.w.cell? ⟨w.heap.size, 1, none⟩ = some (.int .i64 ay) := fun x => cell_of_block (Later.at0 g0 x) rfl
  have f2 : ∀ x : Later W [], x.w.cell? ⟨w.heap.size, 2, none⟩ = some (.int .i64 bx) := fun x => cell_of_block (Later.at0 g0 x) rfl
  have f3 : ∀ x : Later W [], x.w.cell? ⟨w.heap.size, 3, none⟩ = some (.int .i64 by') := fun x => cell_of_block (Later.at0 g0 x) rfl
  have f4 : ∀ x : Later W [], x.w.cell? ⟨w.heap.size + 1, 0, none⟩ = some (.int .i64 px) := fun x => cell_of_block (Later.at0 g1 x) rfl
  have f5 : ∀ x : Later W [], x.w.cell? ⟨w.heap.size + 1, 1, none⟩ = some (.int .i64 py) := fun x => cell_of_block (Later.at0 g1 x) rfl
  repeat (refine walkT_step (fun K hK => ?_); go_simp; first | (refine hK _ _ ?_; clear hK K) | (refine ⟨_, fun x => refline_any _ _ _ _ _, ?_⟩; refine hK _ _ ?_; clear hK K) | (refine ⟨_, fun x => refmay_any _ _ _, ?_⟩; refine hK _ _ ?_; clear hK K))
  refine walkT_nil ?_
  intro w1 hc
  replace g0 := hc.at0 g0
  replace g1 := hc.at0 g1
  replace hb := hb.trans (hc.below.mono hb.size)
  replace hz := Nat.le_trans hz hc.kept.size
  clear hc o3 f0 f1 f2 f3 f4 f5 W
  go_upto_region 3 with (fail)
  refine plain_hid (fun W hW ops hops => ?_)
  subst hW
  clear hops
  have f6 : ∀ x : Later W [], x.w.cell? ⟨w.heap.size, 0, none⟩ = some (.int .i64 ax) := fun x => cell_of_block (Later.at0 g0 x) rfl
  have f7 : ∀ x : Later W [], x.w.cell? ⟨w.heap.size, 1, none⟩ = some (.int .i64 ay) := fun x => cell_of_block (Later.at0 g0 x) rfl
  have f8 : ∀ x : Later W [], x.w.cell? ⟨w.heap.size, 2, none⟩ = some (.int .i64 bx) := fun x => cell_of_block (Later.at0 g0 x) rfl
  have f9 : ∀ x : Later W [], x.w.cell? ⟨w.heap.size, 3, none⟩ = some (.int .i64 by') := fun x => cell_of_block (Later.at0 g0 x) rfl
  have f10 : ∀ x : Later W [], x.w.cell? ⟨w.heap.size + 1, 0, none⟩ = some (.int .i64 px) := fun x => cell_of_block (Later.at0 g1 x) rfl
  have f11 : ∀ x : Later W [], x.w.cell? ⟨w.heap.size + 1, 1, none⟩ = some (.int .i64 py) := fun x => cell_of_block (Later.at0 g1 x) rfl
  repeat (refine walkT_step (fun K hK => ?_); go_simp; first | (refine hK _ _ ?_; clear hK K) | (refine ⟨_, fun x => refdot_any _ _ _ _ _ _ _, ?_⟩; refine hK _ _ ?_; clear hK K))
  refine walkT_nil ?_
  intro w1 hc
  replace g0 := hc.at0 g0
  replace g1 := hc.at0 g1
  replace hb := hb.trans (hc.below.mono hb.size)
  replace hz := Nat.le_trans hz hc.kept.size
  clear hc f6 f7 f8 f9 f10 f11 W
  go_upto_region 4 with (fail)
  refine plain_hid (fun W hW ops hops => ?_)
  subst hW
  have o7 : (ops[7]?).bind (fun x => x.dst) = some 27 := by rw [hops]; rfl
  have o11 : (ops[11]?).bind (fun x => x.dst) = some 31 := by rw [hops]; rfl
  clear hops
  have f12 : ∀ x : Later W [], x.w.cell? ⟨w.heap.size, 0, none⟩ = some (.int .i64 ax) := fun x => cell_of_block (Later.at0 g0 x) rfl
  have f13 : ∀ x : Later W [], x.w.cell? ⟨w.heap.size, 1, none⟩ = some (.int .i64 ay) := fun x => cell_of_block (Later.at0 g0 x) rfl
  have f14 : ∀ x : Later W [], x.w.cell? ⟨w.heap.size, 2, none⟩ = some (.int .i64 bx) := fun x => cell_of_block (Later.at0 g0 x) rfl
  have f15 : ∀ x : Later W [], x.w.cell? ⟨w.heap.size, 3, none⟩ = some (.int .i64 by') := fun x => cell_of_block (Later.at0 g0 x) rfl
  have f16 : ∀ x : Later W [], x.w.cell? ⟨w.heap.size + 1, 0, none⟩ = some (.int .i64 px) := fun x => cell_of_block (Later.at0 g1 x) rfl
  have f17 : ∀ x : Later W [], x.w.cell? ⟨w.heap.size + 1, 1, none⟩ = some (.int .i64 py) := fun x => cell_of_block (Later.at0 g1 x) rfl
  cases c1 : (crossI ax ay bx by' px py == 0) <;> cases c2 : decide (0 ≤ dotI ax ay bx by' px py)
  all_goals
    have c2' := c2
    simp only [decide_eq_true_eq, decide_eq_false_iff_not] at c2'
    repeat (refine walkT_step (fun K hK => ?_); go_simp; first | (refine hK _ _ ?_; clear hK K) | (refine ⟨_, fun x => refcross_any _ _ _ _ _ _ _, ?_⟩; refine hK _ _ ?_; clear hK K) | (refine ⟨_, fun x => refdot_any _ _ _ _ _ _ _, ?_⟩; refine hK _ _ ?_; clear hK K))
    refine walkT_nil ?_
    intro w2 hc
    replace g0 := hc.at0 g0
    replace g1 := hc.at0 g1
    replace hb := hb.trans (hc.below.mono hb.size)
    replace hz := Nat.le_trans hz hc.kept.size
    clear hc o7 o11 f12 f13 f14 f15 f16 f17 W
    go_wp2
    go_ret
    exact ⟨ret_bool (by first | rfl | (rw [c1] <;> rfl) | (rw [c1, c2] <;> rfl)), hb⟩

theorem refon_any (ax ay bx by' px py : Int) (w : World) : Calls Try.prog 27 #[.agg #[.int .i64 ax, .int .i64 ay, .int .i64 bx, .int .i64 by'], .agg #[.int .i64 px, .int .i64 py]] w fun e w' => e = .returned (.bool (onB ax ay bx by' px py)) ∧ Below w.heap.size w w' := by
  have hl : onB ax ay bx by' px py = (lineB ax ay bx by' && mayB px py && (crossI ax ay bx by' px py == 0) && decide (0 ≤ dotI ax ay bx by' px py) && decide (dotI ax ay bx by' px py ≤ dotI ax ay bx by' bx by')) := rfl
  rw [hl]
  cases h : (lineB ax ay bx by' && mayB px py)
  · exact refon_no ax ay bx by' px py w h
  · simp only [Bool.and_eq_true] at h
    rw [Bool.true_and]
    exact refon_yes ax ay bx by' px py w h.1 h.2


def insideB (ax ay bx by' px py : Int) : Bool := onB ax ay bx by' px py && (!decide (px = ax) || !decide (py = ay)) && (!decide (px = bx) || !decide (py = by'))
theorem inside_any (ax ay bx by' px py : Int) (w : World) : Calls Try.prog 32 #[.agg #[.int .i64 ax, .int .i64 ay, .int .i64 bx, .int .i64 by'], .agg #[.int .i64 px, .int .i64 py]] w fun e w' => e = .returned (.bool (insideB ax ay bx by' px py)) ∧ Below w.heap.size w w' := by
  unfold insideB
  cases h1 : onB ax ay bx by' px py <;> cases c1 : (!decide (px = ax) || !decide (py = ay))
  all_goals
    go_enter Try.func32, Try.ntmps32
    go_upto_region 1 with (fail)
    refine plain_hid (fun W hW ops hops => ?_)
    have hb : Below w.heap.size w W := by rw [hW]; go_grown
    have hz : w.heap.size + 2 ≤ W.heap.size := by rw [hW]; simp
    have g0 : W.heap[w.heap.size]? = some (.cells #[.int .i64 ax, .int .i64 ay, .int .i64 bx, .int .i64 by'] 34) := by rw [hW]; exact heap_alloc_lt (heap_alloc_is (rfl))
    have g1 : W.heap[w.heap.size + 1]? = some (.cells #[.int .i64 px, .int .i64 py] 23) := by rw [hW]; exact heap_alloc_is (by simp)
    clear hW
    have o3 : (ops[3]?).bind (fun x => x.dst) = some 8 := by rw [hops]; rfl
    have o9 : (ops[9]?).bind (fun x => x.dst) = some 14 := by rw [hops]; rfl
    clear hops
    have f0 : ∀ x : Later W [], x.w.cell? ⟨w.heap.size, 0, none⟩ = some (.int .i64 ax) := fun x => cell_of_block (Later.at0 g0 x) rfl
    have f1 : ∀ x : Later W [], x.w.cell? ⟨w.heap.size, 1, none⟩ = some (.int .i64 ay) := fun x => cell_of_block (Later.at0 g0 x) rfl
    have f2 : ∀ x : Later W [], x.w.cell? ⟨w.heap.size, 2, none⟩ = some (.int .i64 bx) := fun x => cell_of_block (Later.at0 g0 x) rfl
    have f3 : ∀ x : Later W [], x.w.cell? ⟨w.heap.size, 3, none⟩ = some (.int .i64 by') := fun x => cell_of_block (Later.at0 g0 x) rfl
    have f4 : ∀ x : Later W [], x.w.cell? ⟨w.heap.size + 1, 0, none⟩ = some (.int .i64 px) := fun x => cell_of_block (Later.at0 g1 x) rfl
    have f5 : ∀ x : Later W [], x.w.cell? ⟨w.heap.size + 1, 1, none⟩ = some (.int .i64 py) := fun x => cell_of_block (Later.at0 g1 x) rfl
    repeat (refine walkT_step (fun K hK => ?_); go_simp; first | (refine hK _ _ ?_; clear hK K) | (refine ⟨_, fun x => calm_ne2, ?_⟩; refine hK _ _ ?_; clear hK K) | (refine ⟨_, fun x => on_any _ _ _ _ _ _ _, ?_⟩; refine hK _ _ ?_; clear hK K))
    refine walkT_nil ?_
    intro w1 hc
    replace g0 := hc.at0 g0
    replace g1 := hc.at0 g1
    replace hb := hb.trans (hc.below.mono hb.size)
    replace hz := Nat.le_trans hz hc.kept.size
    clear hc o3 o9 f0 f1 f2 f3 f4 f5 W
    go_wp2
    go_ret
    exact ⟨ret_bool (by first | rfl | (rw [c1] <;> rfl)), hb⟩


def orderI (ax ay bx by' px py qx qy : Int) : Int := if (onB ax ay bx by' px py && onB ax ay bx by' qx qy) = true then cmpI (dotI ax ay bx by' px py) (dotI ax ay bx by' qx qy) else 0
theorem order_no (ax ay bx by' px py qx qy : Int) (w : World) (h : (onB ax ay bx by' px py && onB ax ay bx by' qx qy) = false) : Calls Try.prog 33 #[.agg #[.int .i64 ax, .int .i64 ay, .int .i64 bx, .int .i64 by'], .agg #[.int .i64 px, .int .i64 py], .agg #[.int .i64 qx, .int .i64 qy]] w fun e w' => e = .returned (.int .i64 0) ∧ Below w.heap.size w w' := by
  cases h1 : onB ax ay bx by' px py <;> cases h2 : onB ax ay bx by' qx qy <;> rw [h1, h2] at h <;> first | (exfalso; revert h; decide) | skip
  all_goals
    clear h
    go_enter Try.func33, Try.ntmps33
    go_upto_region 1 with (fail)
    refine plain_hid (fun W hW ops hops => ?_)
    have hb : Below w.heap.size w W := by rw [hW]; go_grown
    have hz : w.heap.size + 3 ≤ W.heap.size := by rw [hW]; simp
    have g0 : W.heap[w.heap.size]? = some (.cells #[.int .i64 ax, .int .i64 ay, .int .i64 bx, .int .i64 by'] 34) := by rw [hW]; exact heap_alloc_lt (heap_alloc_lt (heap_alloc_is (rfl)))
    have g1 : W.heap[w.heap.size + 1]? = some (.cells #[.int .i64 px, .int .i64 py] 23) := by rw [hW]; exact heap_alloc_lt (heap_alloc_is (by simp))
    have g2 : W.heap[w.heap.size + 1 + 1]? = some (.cells #[.int .i64 qx, .int .i64 qy] 23) := by rw [hW]; exact heap_alloc_is (by simp)
    clear hW
    have o4 : (ops[4]?).bind (fun x => x.dst) = some 11 := by rw [hops]; rfl
    clear hops
    have f0 : ∀ x : Later W [], x.w.cell? ⟨w.heap.size, 0, none⟩ = some (.int .i64 ax) := fun x => cell_of_block (Later.at0 g0 x) rfl
    have f1 : ∀ x : Later W [], x.w.cell? ⟨w.heap.size, 1, none⟩ = some (.int .i64 ay) := fun x => cell_of_block (Later.at0 g0 x) rfl
    have f2 : ∀ x : Later W [], x.w.cell? ⟨w.heap.size, 2, none⟩ = some (.int .i64 bx) := fun x => cell_of_block (Later.at0 g0 x) rfl
    have f3 : ∀ x : Later W [], x.w.cell? ⟨w.heap.size, 3, none⟩ = some (.int .i64 by') := fun x => cell_of_block (Later.at0 g0 x) rfl
    have f4 : ∀ x : Later W [], x.w.cell? ⟨w.heap.size + 1, 0, none⟩ = some (.int .i64 px) := fun x => cell_of_block (Later.at0 g1 x) rfl
    have f5 : ∀ x : Later W [], x.w.cell? ⟨w.heap.size + 1, 1, none⟩ = some (.int .i64 py) := fun x => cell_of_block (Later.at0 g1 x) rfl
    have f6 : ∀ x : Later W [], x.w.cell? ⟨w.heap.size + 1 + 1, 0, none⟩ = some (.int .i64 qx) := fun x => cell_of_block (Later.at0 g2 x) rfl
    have f7 : ∀ x : Later W [], x.w.cell? ⟨w.heap.size + 1 + 1, 1, none⟩ = some (.int .i64 qy) := fun x => cell_of_block (Later.at0 g2 x) rfl
    repeat (refine walkT_step (fun K hK => ?_); go_simp; first | (refine hK _ _ ?_; clear hK K) | (refine ⟨_, fun x => on_any _ _ _ _ _ _ _, ?_⟩; refine hK _ _ ?_; clear hK K))
    refine walkT_nil ?_
    intro w1 hc
    replace g0 := hc.at0 g0
    replace g1 := hc.at0 g1
    replace g2 := hc.at0 g2
    replace hb := hb.trans (hc.below.mono hb.size)
    replace hz := Nat.le_trans hz hc.kept.size
    clear hc o4 f0 f1 f2 f3 f4 f5 f6 f7 W
    go_wp2
    go_ret
    exact ⟨rfl, hb⟩


theorem order_yes (ax ay bx by' px py qx qy : Int) (w : World) (h1 : onB ax ay bx by' px py = true) (h2 : onB ax ay bx by' qx qy = true) : Calls Try.prog 33 #[.agg #[.int .i64 ax, .int .i64 ay, .int .i64 bx, .int .i64 by'], .agg #[.int .i64 px, .int .i64 py], .agg #[.int .i64 qx, .int .i64 qy]] w fun e w' => e = .returned (.int .i64 (cmpI (dotI ax ay bx by' px py) (dotI ax ay bx by' qx qy))) ∧ Below w.heap.size w w' := by
  go_enter Try.func33, Try.ntmps33
  go_upto_region 1 with (fail)
  refine plain_hid (fun W hW ops hops => ?_)
  have hb : Below w.heap.size w W := by rw [hW]; go_grown
  have hz : w.heap.size + 3 ≤ W.heap.size := by rw [hW]; simp
  have g0 : W.heap[w.heap.size]? = some (.cells #[.int .i64 ax, .int .i64 ay, .int .i64 bx, .int .i64 by'] 34) := by rw [hW]; exact heap_alloc_lt (heap_alloc_lt (heap_alloc_is (rfl)))
  have g1 : W.heap[w.heap.size + 1]? = some (.cells #[.int .i64 px, .int .i64 py] 23) := by rw [hW]; exact heap_alloc_lt (heap_alloc_is (by simp))
  have g2 : W.heap[w.heap.size + 1 + 1]? = some (.cells #[.int .i64 qx, .int .i64 qy] 23) := by rw [hW]; exact heap_alloc_is (by simp)
  clear hW
  have o4 : (ops[4]?).bind (fun x => x.dst) = some 11 := by rw [hops]; rfl
  clear hops
  have f0 : ∀ x : Later W [], x.w.cell? ⟨w.heap.size, 0, none⟩ = some (.int .i64 ax) := fun x => cell_of_block (Later.at0 g0 x) rfl
  have f1 : ∀ x : Later W [], x.w.cell? ⟨w.heap.size, 1, none⟩ = some (.int .i64 ay) := fun x => cell_of_block (Later.at0 g0 x) rfl
  have f2 : ∀ x : Later W [], x.w.cell? ⟨w.heap.size, 2, none⟩ = some (.int .i64 bx) := fun x => cell_of_block (Later.at0 g0 x) rfl
  have f3 : ∀ x : Later W [], x.w.cell? ⟨w.heap.size, 3, none⟩ = some (.int .i64 by') := fun x => cell_of_block (Later.at0 g0 x) rfl
  have f4 : ∀ x : Later W [], x.w.cell? ⟨w.heap.size + 1, 0, none⟩ = some (.int .i64 px) := fun x => cell_of_block (Later.at0 g1 x) rfl
  have f5 : ∀ x : Later W [], x.w.cell? ⟨w.heap.size + 1, 1, none⟩ = some (.int .i64 py) := fun x => cell_of_block (Later.at0 g1 x) rfl
  have f6 : ∀ x : Later W [], x.w.cell? ⟨w.heap.size + 1 + 1, 0, none⟩ = some (.int .i64 qx) := fun x => cell_of_block (Later.at0 g2 x) rfl
  have f7 : ∀ x : Later W [], x.w.cell? ⟨w.heap.size + 1 + 1, 1, none⟩ = some (.int .i64 qy) := fun x => cell_of_block (Later.at0 g2 x) rfl
  repeat (refine walkT_step (fun K hK => ?_); go_simp; first | (refine hK _ _ ?_; clear hK K) | (refine ⟨_, fun x => on_any _ _ _ _ _ _ _, ?_⟩; refine hK _ _ ?_; clear hK K))
  refine walkT_nil ?_
  intro w1 hc
  replace g0 := hc.at0 g0
  replace g1 := hc.at0 g1
  replace g2 := hc.at0 g2
  replace hb := hb.trans (hc.below.mono hb.size)
  replace hz := Nat.le_trans hz hc.kept.size
  clear hc o4 f0 f1 f2 f3 f4 f5 f6 f7 W
  go_upto_region 3 with (fail)
  refine draws_hid (by kernel_rfl) (by kernel_rfl) (by kernel_rfl) (fun W hW ops hops => ?_)
  subst hW
  clear hops
  have f8 : ∀ x : Later W [], x.w.cell? ⟨w.heap.size, 0, none⟩ = some (.int .i64 ax) := fun x => cell_of_block (Later.at0 g0 x) rfl
  have f9 : ∀ x : Later W [], x.w.cell? ⟨w.heap.size, 1, none⟩ = some (.int .i64 ay) := fun x => cell_of_block (Later.at0 g0 x) rfl
  have f10 : ∀ x : Later W [], x.w.cell? ⟨w.heap.size, 2, none⟩ = some (.int .i64 bx) := fun x => cell_of_block (Later.at0 g0 x) rfl
  have f11 : ∀ x : Later W [], x.w.cell? ⟨w.heap.size, 3, none⟩ = some (.int .i64 by') := fun x => cell_of_block (Later.at0 g0 x) rfl
  have f12 : ∀ x : Later W [], x.w.cell? ⟨w.heap.size + 1, 0, none⟩ = some (.int .i64 px) := fun x => cell_of_block (Later.at0 g1 x) rfl
  have f13 : ∀ x : Later W [], x.w.cell? ⟨w.heap.size + 1, 1, none⟩ = some (.int .i64 py) := fun x => cell_of_block (Later.at0 g1 x) rfl
  have f14 : ∀ x : Later W [], x.w.cell? ⟨w.heap.size + 1 + 1, 0, none⟩ = some (.int .i64 qx) := fun x => cell_of_block (Later.at0 g2 x) rfl
  have f15 : ∀ x : Later W [], x.w.cell? ⟨w.heap.size + 1 + 1, 1, none⟩ = some (.int .i64 qy) := fun x => cell_of_block (Later.at0 g2 x) rfl
  repeat (refine walkT_step (fun K hK => ?_); go_simp; first | (refine hK _ _ ?_; clear hK K) | (refine ⟨_, fun x => dot_any _ _ _ _ _ _ _, ?_⟩; refine hK _ _ ?_; clear hK K) | (refine ⟨_, fun x => compare_any _ _ _, ?_⟩; refine hK _ _ ?_; clear hK K))
  refine walkT_nil ?_
  intro w2 hc
  replace g0 := hc.at0 g0
  replace g1 := hc.at0 g1
  replace g2 := hc.at0 g2
  replace hb := hb.trans (hc.below.mono hb.size)
  replace hz := Nat.le_trans hz hc.kept.size
  clear hc f8 f9 f10 f11 f12 f13 f14 f15 W
  go_wp2
  go_ret
  exact ⟨rfl, hb⟩

theorem order_any (ax ay bx by' px py qx qy : Int) (w : World) : Calls Try.prog 33 #[.agg #[.int .i64 ax, .int .i64 ay, .int .i64 bx, .int .i64 by'], .agg #[.int .i64 px, .int .i64 py], .agg #[.int .i64 qx, .int .i64 qy]] w fun e w' => e = .returned (.int .i64 (orderI ax ay bx by' px py qx qy)) ∧ Below w.heap.size w w' := by
  unfold orderI
  cases h : (onB ax ay bx by' px py && onB ax ay bx by' qx qy)
  · exact order_no ax ay bx by' px py qx qy w h
  · simp only [Bool.and_eq_true] at h
    exact order_yes ax ay bx by' px py qx qy w h.1 h.2

end Go.Proofs.Ytcpjgcpclekjkaa
