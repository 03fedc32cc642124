/-
  WALKS OF LINES THAT TOUCH, OR LIE ALONG EACH OTHER. CONDITIONS: none.
-/
import Derived.Test.YtcpjgcpclekjkaaOri
import Derived.Lib.Hide
namespace Go.Proofs.Ytcpjgcpclekjkaa
open Go.RowKit Go.Proofs.Ytcpjgcpclekjkaa.Tame
set_option maxHeartbeats 400000

def splitB (ax ay bx by' cx cy dx dy : Int) : Bool := decide (cmpI (crossI ax ay bx by' cx cy) 0 * cmpI (crossI ax ay bx by' dx dy) 0 < 0)
def touchB (ax ay bx by' cx cy dx dy : Int) : Bool := lineB ax ay bx by' && lineB cx cy dx dy && (onB ax ay bx by' cx cy || onB ax ay bx by' dx dy || onB cx cy dx dy ax ay || onB cx cy dx dy bx by' || (splitB ax ay bx by' cx cy dx dy && splitB cx cy dx dy ax ay bx by'))
def alongB (ax ay bx by' cx cy dx dy : Int) : Bool := lineB ax ay bx by' && lineB cx cy dx dy && (crossI ax ay bx by' cx cy == 0) && (crossI ax ay bx by' dx dy == 0)

theorem cmp_cases (a b : Int) : cmpI a b = -1 ∨ cmpI a b = 0 ∨ cmpI a b = 1 := by
  unfold cmpI
  split
  · exact .inl rfl
  · split
    · exact .inr (.inr rfl)
    · exact .inr (.inl rfl)
theorem cmp_mul (a b c d : Int) : IntKind.i64.wrap (cmpI a b * cmpI c d) = cmpI a b * cmpI c d := by
  rcases cmp_cases a b with h | h | h <;> rcases cmp_cases c d with k | k | k <;> rw [h, k] <;> decide
/-- Unlike sides, told the document's way. -/
theorem split_ref (a b c d : Int) : ((cmpI a 0 != 0) && (cmpI b 0 != 0) && (cmpI c 0 != 0) && (cmpI d 0 != 0) && (cmpI a 0 != cmpI b 0) && (cmpI c 0 != cmpI d 0)) =
    (decide (cmpI a 0 * cmpI b 0 < 0) && decide (cmpI c 0 * cmpI d 0 < 0)) := by
  rcases cmp_cases a 0 with h1 | h1 | h1 <;> rcases cmp_cases b 0 with h2 | h2 | h2 <;> rcases cmp_cases c 0 with h3 | h3 | h3 <;> rcases cmp_cases d 0 with h4 | h4 | h4 <;> rw [h1, h2, h3, h4] <;> decide


theorem split_any (ax ay bx by' cx cy dx dy : Int) (w : World) : Calls Try.prog 44 #[.agg #[.int .i64 ax, .int .i64 ay, .int .i64 bx, .int .i64 by'], .agg #[.int .i64 cx, .int .i64 cy, .int .i64 dx, .int .i64 dy]] w fun e w' => e = .returned (.bool (splitB ax ay bx by' cx cy dx dy)) ∧ Below w.heap.size w w' := by
  have hm := cmp_mul (crossI ax ay bx by' cx cy) 0 (crossI ax ay bx by' dx dy) 0
  unfold splitB
  go_enter Try.func44, Try.ntmps44
  go_upto_region 1 with (fail)
  refine draws_hid (by kernel_rfl) (by kernel_rfl) (by kernel_rfl) (fun W hW ops hops => ?_)
  have hb : Below w.heap.size w W := by rw [hW]; go_grown
  have hz : w.heap.size + 2 ≤ W.heap.size := by rw [hW]; simp
  have g0 : W.heap[w.heap.size]? = some (.cells #[.int .i64 ax, .int .i64 ay, .int .i64 bx, .int .i64 by'] 34) := by rw [hW]; exact heap_alloc_lt (heap_alloc_is (rfl))
  have g1 : W.heap[w.heap.size + 1]? = some (.cells #[.int .i64 cx, .int .i64 cy, .int .i64 dx, .int .i64 dy] 34) := by rw [hW]; exact heap_alloc_is (by simp)
  clear hW
  clear hops
  have f0 : ∀ x : Later W [], x.w.cell? ⟨w.heap.size, 0, none⟩ = some (.int .i64 ax) := fun x => cell_of_block (Later.at0 g0 x) rfl
  have f1 : ∀ x : Later W [], x.w.cell? ⟨w.heap.size, 1, none⟩ = some (.int .i64 ay) := fun x => cell_of_block (Later.at0 g0 x) rfl
  have f2 : ∀ x : Later W [], x.w.cell? ⟨w.heap.size, 2, none⟩ = some (.int .i64 bx) := fun x => cell_of_block (Later.at0 g0 x) rfl
  have f3 : ∀ x : Later W [], x.w.cell? ⟨w.heap.size, 3, none⟩ = some (.int .i64 by') := fun x => cell_of_block (Later.at0 g0 x) rfl
  have f4 : ∀ x : Later W [], x.w.cell? ⟨w.heap.size + 1, 0, none⟩ = some (.int .i64 cx) := fun x => cell_of_block (Later.at0 g1 x) rfl
  have f5 : ∀ x : Later W [], x.w.cell? ⟨w.heap.size + 1, 1, none⟩ = some (.int .i64 cy) := fun x => cell_of_block (Later.at0 g1 x) rfl
  have f6 : ∀ x : Later W [], x.w.cell? ⟨w.heap.size + 1, 2, none⟩ = some (.int .i64 dx) := fun x => cell_of_block (Later.at0 g1 x) rfl
  have f7 : ∀ x : Later W [], x.w.cell? ⟨w.heap.size + 1, 3, none⟩ = some (.int .i64 dy) := fun x => cell_of_block (Later.at0 g1 x) rfl
  repeat (refine walkT_step (fun K hK => ?_); go_simp; first | (refine hK _ _ ?_; clear hK K) | (refine ⟨_, fun x => side_any _ _ _ _ _ _ _, ?_⟩; refine hK _ _ ?_; clear hK K))
  refine walkT_nil ?_
  intro w1 hc
  replace g0 := hc.at0 g0
  replace g1 := hc.at0 g1
  replace hb := hb.trans (hc.below.mono hb.size)
  replace hz := Nat.le_trans hz hc.kept.size
  clear hc f0 f1 f2 f3 f4 f5 f6 f7 W
  go_wp2
  go_ret
  exact ⟨rfl, hb⟩


theorem along_any (ax ay bx by' cx cy dx dy : Int) (w : World) : Calls Try.prog 37 #[.agg #[.int .i64 ax, .int .i64 ay, .int .i64 bx, .int .i64 by'], .agg #[.int .i64 cx, .int .i64 cy, .int .i64 dx, .int .i64 dy]] w fun e w' => e = .returned (.bool (alongB ax ay bx by' cx cy dx dy)) ∧ Below w.heap.size w w' := by
  have q1 := cmp_eq (crossI ax ay bx by' cx cy)
  have q2 := cmp_eq (crossI ax ay bx by' dx dy)
  unfold alongB
  cases h1 : lineB ax ay bx by' <;> cases h2 : lineB cx cy dx dy <;> cases h3 : (crossI ax ay bx by' cx cy == 0)
  all_goals
    go_enter Try.func37, Try.ntmps37
    go_upto_region 1 with (fail)
    refine plain_hid (fun W hW ops hops => ?_)
    have hb : Below w.heap.size w W := by rw [hW]; go_grown
    have hz : w.heap.size + 2 ≤ W.heap.size := by rw [hW]; simp
    have g0 : W.heap[w.heap.size]? = some (.cells #[.int .i64 ax, .int .i64 ay, .int .i64 bx, .int .i64 by'] 34) := by rw [hW]; exact heap_alloc_lt (heap_alloc_is (rfl))
    have g1 : W.heap[w.heap.size + 1]? = some (.cells #[.int .i64 cx, .int .i64 cy, .int .i64 dx, .int .i64 dy] 34) := by rw [hW]; exact heap_alloc_is (by simp)
    clear hW
    have o2 : (ops[2]?).bind (fun x => x.dst) = some 7 := by rw [hops]; rfl
    have o6 : (ops[6]?).bind (fun x => x.dst) = some 11 := by rw [hops]; rfl
    have o16 : (ops[16]?).bind (fun x => x.dst) = some 21 := by rw [hops]; rfl
    clear hops
    have f0 : ∀ x : Later W [], x.w.cell? ⟨w.heap.size, 0, none⟩ = some (.int .i64 ax) := fun x => cell_of_block (Later.at0 g0 x) rfl
    have f1 : ∀ x : Later W [], x.w.cell? ⟨w.heap.size, 1, none⟩ = some (.int .i64 ay) := fun x => cell_of_block (Later.at0 g0 x) rfl
    have f2 : ∀ x : Later W [], x.w.cell? ⟨w.heap.size, 2, none⟩ = some (.int .i64 bx) := fun x => cell_of_block (Later.at0 g0 x) rfl
    have f3 : ∀ x : Later W [], x.w.cell? ⟨w.heap.size, 3, none⟩ = some (.int .i64 by') := fun x => cell_of_block (Later.at0 g0 x) rfl
    have f4 : ∀ x : Later W [], x.w.cell? ⟨w.heap.size + 1, 0, none⟩ = some (.int .i64 cx) := fun x => cell_of_block (Later.at0 g1 x) rfl
    have f5 : ∀ x : Later W [], x.w.cell? ⟨w.heap.size + 1, 1, none⟩ = some (.int .i64 cy) := fun x => cell_of_block (Later.at0 g1 x) rfl
    have f6 : ∀ x : Later W [], x.w.cell? ⟨w.heap.size + 1, 2, none⟩ = some (.int .i64 dx) := fun x => cell_of_block (Later.at0 g1 x) rfl
    have f7 : ∀ x : Later W [], x.w.cell? ⟨w.heap.size + 1, 3, none⟩ = some (.int .i64 dy) := fun x => cell_of_block (Later.at0 g1 x) rfl
    repeat (refine walkT_step (fun K hK => ?_); go_simp; first | (refine hK _ _ ?_; clear hK K) | (refine ⟨_, fun x => line_any _ _ _ _ _, ?_⟩; refine hK _ _ ?_; clear hK K) | (refine ⟨_, fun x => side_any _ _ _ _ _ _ _, ?_⟩; refine hK _ _ ?_; clear hK K))
    refine walkT_nil ?_
    intro w1 hc
    replace g0 := hc.at0 g0
    replace g1 := hc.at0 g1
    replace hb := hb.trans (hc.below.mono hb.size)
    replace hz := Nat.le_trans hz hc.kept.size
    clear hc o2 o6 o16 f0 f1 f2 f3 f4 f5 f6 f7 W
    go_wp2
    go_ret
    exact ⟨rfl, hb⟩


theorem touch_no (ax ay bx by' cx cy dx dy : Int) (w : World) (h : (lineB ax ay bx by' && lineB cx cy dx dy) = false) : Calls Try.prog 35 #[.agg #[.int .i64 ax, .int .i64 ay, .int .i64 bx, .int .i64 by'], .agg #[.int .i64 cx, .int .i64 cy, .int .i64 dx, .int .i64 dy]] w fun e w' => e = .returned (.bool false) ∧ Below w.heap.size w w' := by
  cases h1 : lineB ax ay bx by' <;> cases h2 : lineB cx cy dx dy <;> rw [h1, h2] at h <;> first | (exfalso; revert h; decide) | skip
  all_goals
    clear h
    go_enter Try.func35, Try.ntmps35
    go_upto_region 1 with (fail)
    refine plain_hid (fun W hW ops hops => ?_)
    have hb : Below w.heap.size w W := by rw [hW]; go_grown
    have hz : w.heap.size + 2 ≤ W.heap.size := by rw [hW]; simp
    have g0 : W.heap[w.heap.size]? = some (.cells #[.int .i64 ax, .int .i64 ay, .int .i64 bx, .int .i64 by'] 34) := by rw [hW]; exact heap_alloc_lt (heap_alloc_is (rfl))
    have g1 : W.heap[w.heap.size + 1]? = some (.cells #[.int .i64 cx, .int .i64 cy, .int .i64 dx, .int .i64 dy] 34) := by rw [hW]; exact heap_alloc_is (by simp)
    clear hW
    have o3 : (ops[3]?).bind (fun x => x.dst) = some 8 := by rw [hops]; rfl
    clear hops
    have f0 : ∀ x : Later W [], x.w.cell? ⟨w.heap.size, 0, none⟩ = some (.int .i64 ax) := fun x => cell_of_block (Later.at0 g0 x) rfl
    have f1 : ∀ x : Later W [], x.w.cell? ⟨w.heap.size, 1, none⟩ = some (.int .i64 ay) := fun x => cell_of_block (Later.at0 g0 x) rfl
    have f2 : ∀ x : Later W [], x.w.cell? ⟨w.heap.size, 2, none⟩ = some (.int .i64 bx) := fun x => cell_of_block (Later.at0 g0 x) rfl
    have f3 : ∀ x : Later W [], x.w.cell? ⟨w.heap.size, 3, none⟩ = some (.int .i64 by') := fun x => cell_of_block (Later.at0 g0 x) rfl
    have f4 : ∀ x : Later W [], x.w.cell? ⟨w.heap.size + 1, 0, none⟩ = some (.int .i64 cx) := fun x => cell_of_block (Later.at0 g1 x) rfl
    have f5 : ∀ x : Later W [], x.w.cell? ⟨w.heap.size + 1, 1, none⟩ = some (.int .i64 cy) := fun x => cell_of_block (Later.at0 g1 x) rfl
    have f6 : ∀ x : Later W [], x.w.cell? ⟨w.heap.size + 1, 2, none⟩ = some (.int .i64 dx) := fun x => cell_of_block (Later.at0 g1 x) rfl
    have f7 : ∀ x : Later W [], x.w.cell? ⟨w.heap.size + 1, 3, none⟩ = some (.int .i64 dy) := fun x => cell_of_block (Later.at0 g1 x) rfl
    repeat (refine walkT_step (fun K hK => ?_); go_simp; first | (refine hK _ _ ?_; clear hK K) | (refine ⟨_, fun x => line_any _ _ _ _ _, ?_⟩; refine hK _ _ ?_; clear hK K))
    refine walkT_nil ?_
    intro w1 hc
    replace g0 := hc.at0 g0
    replace g1 := hc.at0 g1
    replace hb := hb.trans (hc.below.mono hb.size)
    replace hz := Nat.le_trans hz hc.kept.size
    clear hc o3 f0 f1 f2 f3 f4 f5 f6 f7 W
    go_wp2
    go_ret
    exact ⟨rfl, hb⟩


set_option maxRecDepth 100000 in
set_option maxHeartbeats 4000000 in
theorem touch_yes (ax ay bx by' cx cy dx dy : Int) (w : World) (h1 : lineB ax ay bx by' = true) (h2 : lineB cx cy dx dy = true) : Calls Try.prog 35 #[.agg #[.int .i64 ax, .int .i64 ay, .int .i64 bx, .int .i64 by'], .agg #[.int .i64 cx, .int .i64 cy, .int .i64 dx, .int .i64 dy]] w fun e w' => e = .returned (.bool (onB ax ay bx by' cx cy || onB ax ay bx by' dx dy || onB cx cy dx dy ax ay || onB cx cy dx dy bx by' || (splitB ax ay bx by' cx cy dx dy && splitB cx cy dx dy ax ay bx by'))) ∧ Below w.heap.size w w' := by
  go_enter Try.func35, Try.ntmps35
  go_upto_region 1 with (fail)
  refine plain_hid (fun W hW ops hops => ?_)
  have hb : Below w.heap.size w W := by rw [hW]; go_grown
  have hz : w.heap.size + 2 ≤ W.heap.size := by rw [hW]; simp
  have g0 : W.heap[w.heap.size]? = some (.cells #[.int .i64 ax, .int .i64 ay, .int .i64 bx, .int .i64 by'] 34) := by rw [hW]; exact heap_alloc_lt (heap_alloc_is (rfl))
  have g1 : W.heap[w.heap.size + 1]? = some (.cells #[.int .i64 cx, .int .i64 cy, .int .i64 dx, .int .i64 dy] 34) := by rw [hW]; exact heap_alloc_is (by simp)
  clear hW
  have o3 : (ops[3]?).bind (fun x => x.dst) = some 8 := by rw [hops]; rfl
  clear hops
  have f0 : ∀ x : Later W [], x.w.cell? ⟨w.heap.size, 0, none⟩ = some (.int .i64 ax) := fun x => cell_of_block (Later.at0 g0 x) rfl
  have f1 : ∀ x : Later W [], x.w.cell? ⟨w.heap.size, 1, none⟩ = some (.int .i64 ay) := fun x => cell_of_block (Later.at0 g0 x) rfl
  have f2 : ∀ x : Later W [], x.w.cell? ⟨w.heap.size, 2, none⟩ = some (.int .i64 bx) := fun x => cell_of_block (Later.at0 g0 x) rfl
  have f3 : ∀ x : Later W [], x.w.cell? ⟨w.heap.size, 3, none⟩ = some (.int .i64 by') := fun x => cell_of_block (Later.at0 g0 x) rfl
  have f4 : ∀ x : Later W [], x.w.cell? ⟨w.heap.size + 1, 0, none⟩ = some (.int .i64 cx) := fun x => cell_of_block (Later.at0 g1 x) rfl
  have f5 : ∀ x : Later W [], x.w.cell? ⟨w.heap.size + 1, 1, none⟩ = some (.int .i64 cy) := fun x => cell_of_block (Later.at0 g1 x) rfl
  have f6 : ∀ x : Later W [], x.w.cell? ⟨w.heap.size + 1, 2, none⟩ = some (.int .i64 dx) := fun x => cell_of_block (Later.at0 g1 x) rfl
  have f7 : ∀ x : Later W [], x.w.cell? ⟨w.heap.size + 1, 3, none⟩ = some (.int .i64 dy) := fun x => cell_of_block (Later.at0 g1 x) rfl
  repeat (refine walkT_step (fun K hK => ?_); go_simp; first | (refine hK _ _ ?_; clear hK K) | (refine ⟨_, fun x => line_any _ _ _ _ _, ?_⟩; refine hK _ _ ?_; clear hK K))
  refine walkT_nil ?_
  intro w1 hc
  replace g0 := hc.at0 g0
  replace g1 := hc.at0 g1
  replace hb := hb.trans (hc.below.mono hb.size)
  replace hz := Nat.le_trans hz hc.kept.size
  clear hc o3 f0 f1 f2 f3 f4 f5 f6 f7 W
  go_upto_region 3 with (fail)
  refine plain_hid (fun W hW ops hops => ?_)
  subst hW
  have o4 : (ops[4]?).bind (fun x => x.dst) = some 17 := by rw [hops]; rfl
  have o10 : (ops[10]?).bind (fun x => x.dst) = some 23 := by rw [hops]; rfl
  have o16 : (ops[16]?).bind (fun x => x.dst) = some 29 := by rw [hops]; rfl
  have o22 : (ops[22]?).bind (fun x => x.dst) = some 35 := by rw [hops]; rfl
  have o26 : (ops[26]?).bind (fun x => x.dst) = some 39 := by rw [hops]; rfl
  clear hops
  have f8 : ∀ x : Later W [], x.w.cell? ⟨w.heap.size, 0, none⟩ = some (.int .i64 ax) := fun x => cell_of_block (Later.at0 g0 x) rfl
  have f9 : ∀ x : Later W [], x.w.cell? ⟨w.heap.size, 1, none⟩ = some (.int .i64 ay) := fun x => cell_of_block (Later.at0 g0 x) rfl
  have f10 : ∀ x : Later W [], x.w.cell? ⟨w.heap.size, 2, none⟩ = some (.int .i64 bx) := fun x => cell_of_block (Later.at0 g0 x) rfl
  have f11 : ∀ x : Later W [], x.w.cell? ⟨w.heap.size, 3, none⟩ = some (.int .i64 by') := fun x => cell_of_block (Later.at0 g0 x) rfl
  have f12 : ∀ x : Later W [], x.w.cell? ⟨w.heap.size + 1, 0, none⟩ = some (.int .i64 cx) := fun x => cell_of_block (Later.at0 g1 x) rfl
  have f13 : ∀ x : Later W [], x.w.cell? ⟨w.heap.size + 1, 1, none⟩ = some (.int .i64 cy) := fun x => cell_of_block (Later.at0 g1 x) rfl
  have f14 : ∀ x : Later W [], x.w.cell? ⟨w.heap.size + 1, 2, none⟩ = some (.int .i64 dx) := fun x => cell_of_block (Later.at0 g1 x) rfl
  have f15 : ∀ x : Later W [], x.w.cell? ⟨w.heap.size + 1, 3, none⟩ = some (.int .i64 dy) := fun x => cell_of_block (Later.at0 g1 x) rfl
  cases u1 : onB ax ay bx by' cx cy
  ·
    cases u2 : onB ax ay bx by' dx dy
    ·
      cases u3 : onB cx cy dx dy ax ay
      ·
        cases u4 : onB cx cy dx dy bx by'
        ·
          cases s1 : splitB ax ay bx by' cx cy dx dy
          all_goals
            repeat (refine walkT_step (fun K hK => ?_); go_simp; first | (refine hK _ _ ?_; clear hK K) | (refine ⟨_, fun x => on_any _ _ _ _ _ _ _, ?_⟩; refine hK _ _ ?_; clear hK K) | (refine ⟨_, fun x => split_any _ _ _ _ _ _ _ _ _, ?_⟩; refine hK _ _ ?_; clear hK K))
            refine walkT_nil ?_
            intro w2 hc
            replace g0 := hc.at0 g0
            replace g1 := hc.at0 g1
            replace hb := hb.trans (hc.below.mono hb.size)
            replace hz := Nat.le_trans hz hc.kept.size
            clear hc o4 o10 o16 o22 o26 f8 f9 f10 f11 f12 f13 f14 f15 W
            go_wp2
            go_ret
            exact ⟨ret_bool (by rw [u1, u2, u3, u4, s1] <;> rfl), hb⟩
        ·
          repeat (refine walkT_step (fun K hK => ?_); go_simp; first | (refine hK _ _ ?_; clear hK K) | (refine ⟨_, fun x => on_any _ _ _ _ _ _ _, ?_⟩; refine hK _ _ ?_; clear hK K) | (refine ⟨_, fun x => split_any _ _ _ _ _ _ _ _ _, ?_⟩; refine hK _ _ ?_; clear hK K))
          refine walkT_nil ?_
          intro w2 hc
          replace g0 := hc.at0 g0
          replace g1 := hc.at0 g1
          replace hb := hb.trans (hc.below.mono hb.size)
          replace hz := Nat.le_trans hz hc.kept.size
          clear hc o4 o10 o16 o22 o26 f8 f9 f10 f11 f12 f13 f14 f15 W
          go_wp2
          go_ret
          exact ⟨ret_bool (by rw [u1, u2, u3, u4] <;> rfl), hb⟩
      ·
        repeat (refine walkT_step (fun K hK => ?_); go_simp; first | (refine hK _ _ ?_; clear hK K) | (refine ⟨_, fun x => on_any _ _ _ _ _ _ _, ?_⟩; refine hK _ _ ?_; clear hK K) | (refine ⟨_, fun x => split_any _ _ _ _ _ _ _ _ _, ?_⟩; refine hK _ _ ?_; clear hK K))
        refine walkT_nil ?_
        intro w2 hc
        replace g0 := hc.at0 g0
        replace g1 := hc.at0 g1
        replace hb := hb.trans (hc.below.mono hb.size)
        replace hz := Nat.le_trans hz hc.kept.size
        clear hc o4 o10 o16 o22 o26 f8 f9 f10 f11 f12 f13 f14 f15 W
        go_wp2
        go_ret
        exact ⟨ret_bool (by rw [u1, u2, u3] <;> rfl), hb⟩
    ·
      repeat (refine walkT_step (fun K hK => ?_); go_simp; first | (refine hK _ _ ?_; clear hK K) | (refine ⟨_, fun x => on_any _ _ _ _ _ _ _, ?_⟩; refine hK _ _ ?_; clear hK K) | (refine ⟨_, fun x => split_any _ _ _ _ _ _ _ _ _, ?_⟩; refine hK _ _ ?_; clear hK K))
      refine walkT_nil ?_
      intro w2 hc
      replace g0 := hc.at0 g0
      replace g1 := hc.at0 g1
      replace hb := hb.trans (hc.below.mono hb.size)
      replace hz := Nat.le_trans hz hc.kept.size
      clear hc o4 o10 o16 o22 o26 f8 f9 f10 f11 f12 f13 f14 f15 W
      go_wp2
      go_ret
      exact ⟨ret_bool (by rw [u1, u2] <;> rfl), hb⟩
  ·
    repeat (refine walkT_step (fun K hK => ?_); go_simp; first | (refine hK _ _ ?_; clear hK K) | (refine ⟨_, fun x => on_any _ _ _ _ _ _ _, ?_⟩; refine hK _ _ ?_; clear hK K) | (refine ⟨_, fun x => split_any _ _ _ _ _ _ _ _ _, ?_⟩; refine hK _ _ ?_; clear hK K))
    refine walkT_nil ?_
    intro w2 hc
    replace g0 := hc.at0 g0
    replace g1 := hc.at0 g1
    replace hb := hb.trans (hc.below.mono hb.size)
    replace hz := Nat.le_trans hz hc.kept.size
    clear hc o4 o10 o16 o22 o26 f8 f9 f10 f11 f12 f13 f14 f15 W
    go_wp2
    go_ret
    exact ⟨ret_bool (by rw [u1] <;> rfl), hb⟩

theorem touch_any (ax ay bx by' cx cy dx dy : Int) (w : World) : Calls Try.prog 35 #[.agg #[.int .i64 ax, .int .i64 ay, .int .i64 bx, .int .i64 by'], .agg #[.int .i64 cx, .int .i64 cy, .int .i64 dx, .int .i64 dy]] w fun e w' => e = .returned (.bool (touchB ax ay bx by' cx cy dx dy)) ∧ Below w.heap.size w w' := by
  unfold touchB
  cases h : (lineB ax ay bx by' && lineB cx cy dx dy)
  · exact touch_no ax ay bx by' cx cy dx dy w h
  · rw [Bool.and_eq_true] at h
    rw [Bool.true_and]
    exact touch_yes ax ay bx by' cx cy dx dy w h.1 h.2


theorem reftouch_no (ax ay bx by' cx cy dx dy : Int) (w : World) (h : (lineB ax ay bx by' && lineB cx cy dx dy) = false) : Calls Try.prog 36 #[.agg #[.int .i64 ax, .int .i64 ay, .int .i64 bx, .int .i64 by'], .agg #[.int .i64 cx, .int .i64 cy, .int .i64 dx, .int .i64 dy]] w fun e w' => e = .returned (.bool false) ∧ Below w.heap.size w w' := by
  cases h1 : lineB ax ay bx by' <;> cases h2 : lineB cx cy dx dy <;> rw [h1, h2] at h <;> first | (exfalso; revert h; decide) | skip
  all_goals
    clear h
    go_enter Try.func36, Try.ntmps36
    go_upto_region 1 with (fail)
    refine plain_hid (fun W hW ops hops => ?_)
    have hb : Below w.heap.size w W := by rw [hW]; go_grown
    have hz : w.heap.size + 2 ≤ W.heap.size := by rw [hW]; simp
    have g0 : W.heap[w.heap.size]? = some (.cells #[.int .i64 ax, .int .i64 ay, .int .i64 bx, .int .i64 by'] 34) := by rw [hW]; exact heap_alloc_lt (heap_alloc_is (rfl))
    have g1 : W.heap[w.heap.size + 1]? = some (.cells #[.int .i64 cx, .int .i64 cy, .int .i64 dx, .int .i64 dy] 34) := by rw [hW]; exact heap_alloc_is (by simp)
    clear hW
    have o3 : (ops[3]?).bind (fun x => x.dst) = some 12 := by rw [hops]; rfl
    clear hops
    have f0 : ∀ x : Later W [], x.w.cell? ⟨w.heap.size, 0, none⟩ = some (.int .i64 ax) := fun x => cell_of_block (Later.at0 g0 x) rfl
    have f1 : ∀ x : Later W [], x.w.cell? ⟨w.heap.size, 1, none⟩ = some (.int .i64 ay) := fun x => cell_of_block (Later.at0 g0 x) rfl
    have f2 : ∀ x : Later W [], x.w.cell? ⟨w.heap.size, 2, none⟩ = some (.int .i64 bx) := fun x => cell_of_block (Later.at0 g0 x) rfl
    have f3 : ∀ x : Later W [], x.w.cell? ⟨w.heap.size, 3, none⟩ = some (.int .i64 by') := fun x => cell_of_block (Later.at0 g0 x) rfl
    have f4 : ∀ x : Later W [], x.w.cell? ⟨w.heap.size + 1, 0, none⟩ = some (.int .i64 cx) := fun x => cell_of_block (Later.at0 g1 x) rfl
    have f5 : ∀ x : Later W [], x.w.cell? ⟨w.heap.size + 1, 1, none⟩ = some (.int .i64 cy) := fun x => cell_of_block (Later.at0 g1 x) rfl
    have f6 : ∀ x : Later W [], x.w.cell? ⟨w.heap.size + 1, 2, none⟩ = some (.int .i64 dx) := fun x => cell_of_block (Later.at0 g1 x) rfl
    have f7 : ∀ x : Later W [], x.w.cell? ⟨w.heap.size + 1, 3, none⟩ = some (.int .i64 dy) := fun x => cell_of_block (Later.at0 g1 x) rfl
    repeat (refine walkT_step (fun K hK => ?_); go_simp; first | (refine hK _ _ ?_; clear hK K) | (refine ⟨_, fun x => refline_any _ _ _ _ _, ?_⟩; refine hK _ _ ?_; clear hK K))
    refine walkT_nil ?_
    intro w1 hc
    replace g0 := hc.at0 g0
    replace g1 := hc.at0 g1
    replace hb := hb.trans (hc.below.mono hb.size)
    replace hz := Nat.le_trans hz hc.kept.size
    clear hc o3 f0 f1 f2 f3 f4 f5 f6 f7 W
    go_wp2
    go_ret
    exact ⟨rfl, hb⟩


theorem fin_ref {x y z : Bool} (h : x = y) (h2 : z = x) : z = (false || false || false || false || y) := by rw [h2, h]; rfl


set_option maxRecDepth 100000 in
set_option maxHeartbeats 4000000 in
theorem reftouch_yes (ax ay bx by' cx cy dx dy : Int) (w : World) (h1 : lineB ax ay bx by' = true) (h2 : lineB cx cy dx dy = true) : Calls Try.prog 36 #[.agg #[.int .i64 ax, .int .i64 ay, .int .i64 bx, .int .i64 by'], .agg #[.int .i64 cx, .int .i64 cy, .int .i64 dx, .int .i64 dy]] w fun e w' => e = .returned (.bool (onB ax ay bx by' cx cy || onB ax ay bx by' dx dy || onB cx cy dx dy ax ay || onB cx cy dx dy bx by' || (splitB ax ay bx by' cx cy dx dy && splitB cx cy dx dy ax ay bx by'))) ∧ Below w.heap.size w w' := by
  go_enter Try.func36, Try.ntmps36
  go_upto_region 1 with (fail)
  refine plain_hid (fun W hW ops hops => ?_)
  have hb : Below w.heap.size w W := by rw [hW]; go_grown
  have hz : w.heap.size + 2 ≤ W.heap.size := by rw [hW]; simp
  have g0 : W.heap[w.heap.size]? = some (.cells #[.int .i64 ax, .int .i64 ay, .int .i64 bx, .int .i64 by'] 34) := by rw [hW]; exact heap_alloc_lt (heap_alloc_is (rfl))
  have g1 : W.heap[w.heap.size + 1]? = some (.cells #[.int .i64 cx, .int .i64 cy, .int .i64 dx, .int .i64 dy] 34) := by rw [hW]; exact heap_alloc_is (by simp)
  clear hW
  have o3 : (ops[3]?).bind (fun x => x.dst) = some 12 := by rw [hops]; rfl
  clear hops
  have f0 : ∀ x : Later W [], x.w.cell? ⟨w.heap.size, 0, none⟩ = some (.int .i64 ax) := fun x => cell_of_block (Later.at0 g0 x) rfl
  have f1 : ∀ x : Later W [], x.w.cell? ⟨w.heap.size, 1, none⟩ = some (.int .i64 ay) := fun x => cell_of_block (Later.at0 g0 x) rfl
  have f2 : ∀ x : Later W [], x.w.cell? ⟨w.heap.size, 2, none⟩ = some (.int .i64 bx) := fun x => cell_of_block (Later.at0 g0 x) rfl
  have f3 : ∀ x : Later W [], x.w.cell? ⟨w.heap.size, 3, none⟩ = some (.int .i64 by') := fun x => cell_of_block (Later.at0 g0 x) rfl
  have f4 : ∀ x : Later W [], x.w.cell? ⟨w.heap.size + 1, 0, none⟩ = some (.int .i64 cx) := fun x => cell_of_block (Later.at0 g1 x) rfl
  have f5 : ∀ x : Later W [], x.w.cell? ⟨w.heap.size + 1, 1, none⟩ = some (.int .i64 cy) := fun x => cell_of_block (Later.at0 g1 x) rfl
  have f6 : ∀ x : Later W [], x.w.cell? ⟨w.heap.size + 1, 2, none⟩ = some (.int .i64 dx) := fun x => cell_of_block (Later.at0 g1 x) rfl
  have f7 : ∀ x : Later W [], x.w.cell? ⟨w.heap.size + 1, 3, none⟩ = some (.int .i64 dy) := fun x => cell_of_block (Later.at0 g1 x) rfl
  repeat (refine walkT_step (fun K hK => ?_); go_simp; first | (refine hK _ _ ?_; clear hK K) | (refine ⟨_, fun x => refline_any _ _ _ _ _, ?_⟩; refine hK _ _ ?_; clear hK K))
  refine walkT_nil ?_
  intro w1 hc
  replace g0 := hc.at0 g0
  replace g1 := hc.at0 g1
  replace hb := hb.trans (hc.below.mono hb.size)
  replace hz := Nat.le_trans hz hc.kept.size
  clear hc o3 f0 f1 f2 f3 f4 f5 f6 f7 W
  go_upto_region 3 with (fail)
  refine plain_hid (fun W hW ops hops => ?_)
  subst hW
  have o4 : (ops[4]?).bind (fun x => x.dst) = some 21 := by rw [hops]; rfl
  have o10 : (ops[10]?).bind (fun x => x.dst) = some 27 := by rw [hops]; rfl
  have o16 : (ops[16]?).bind (fun x => x.dst) = some 33 := by rw [hops]; rfl
  clear hops
  have f8 : ∀ x : Later W [], x.w.cell? ⟨w.heap.size, 0, none⟩ = some (.int .i64 ax) := fun x => cell_of_block (Later.at0 g0 x) rfl
  have f9 : ∀ x : Later W [], x.w.cell? ⟨w.heap.size, 1, none⟩ = some (.int .i64 ay) := fun x => cell_of_block (Later.at0 g0 x) rfl
  have f10 : ∀ x : Later W [], x.w.cell? ⟨w.heap.size, 2, none⟩ = some (.int .i64 bx) := fun x => cell_of_block (Later.at0 g0 x) rfl
  have f11 : ∀ x : Later W [], x.w.cell? ⟨w.heap.size, 3, none⟩ = some (.int .i64 by') := fun x => cell_of_block (Later.at0 g0 x) rfl
  have f12 : ∀ x : Later W [], x.w.cell? ⟨w.heap.size + 1, 0, none⟩ = some (.int .i64 cx) := fun x => cell_of_block (Later.at0 g1 x) rfl
  have f13 : ∀ x : Later W [], x.w.cell? ⟨w.heap.size + 1, 1, none⟩ = some (.int .i64 cy) := fun x => cell_of_block (Later.at0 g1 x) rfl
  have f14 : ∀ x : Later W [], x.w.cell? ⟨w.heap.size + 1, 2, none⟩ = some (.int .i64 dx) := fun x => cell_of_block (Later.at0 g1 x) rfl
  have f15 : ∀ x : Later W [], x.w.cell? ⟨w.heap.size + 1, 3, none⟩ = some (.int .i64 dy) := fun x => cell_of_block (Later.at0 g1 x) rfl
  cases u1 : onB ax ay bx by' cx cy
  ·
    cases u2 : onB ax ay bx by' dx dy
    ·
      cases u3 : onB cx cy dx dy ax ay
      ·
        cases u4 : onB cx cy dx dy bx by'
        ·
          repeat (refine walkT_step (fun K hK => ?_); go_simp; first | (refine hK _ _ ?_; clear hK K) | (refine ⟨_, fun x => refon_any _ _ _ _ _ _ _, ?_⟩; refine hK _ _ ?_; clear hK K))
          refine walkT_nil ?_
          intro w1 hc
          replace g0 := hc.at0 g0
          replace g1 := hc.at0 g1
          replace hb := hb.trans (hc.below.mono hb.size)
          replace hz := Nat.le_trans hz hc.kept.size
          clear hc o4 o10 o16 f8 f9 f10 f11 f12 f13 f14 f15 W
          go_upto_region 5 with (fail)
          refine draws_hid (by kernel_rfl) (by kernel_rfl) (by kernel_rfl) (fun W hW ops hops => ?_)
          subst hW
          clear hops
          have f16 : ∀ x : Later W [], x.w.cell? ⟨w.heap.size, 0, none⟩ = some (.int .i64 ax) := fun x => cell_of_block (Later.at0 g0 x) rfl
          have f17 : ∀ x : Later W [], x.w.cell? ⟨w.heap.size, 1, none⟩ = some (.int .i64 ay) := fun x => cell_of_block (Later.at0 g0 x) rfl
          have f18 : ∀ x : Later W [], x.w.cell? ⟨w.heap.size, 2, none⟩ = some (.int .i64 bx) := fun x => cell_of_block (Later.at0 g0 x) rfl
          have f19 : ∀ x : Later W [], x.w.cell? ⟨w.heap.size, 3, none⟩ = some (.int .i64 by') := fun x => cell_of_block (Later.at0 g0 x) rfl
          have f20 : ∀ x : Later W [], x.w.cell? ⟨w.heap.size + 1, 0, none⟩ = some (.int .i64 cx) := fun x => cell_of_block (Later.at0 g1 x) rfl
          have f21 : ∀ x : Later W [], x.w.cell? ⟨w.heap.size + 1, 1, none⟩ = some (.int .i64 cy) := fun x => cell_of_block (Later.at0 g1 x) rfl
          have f22 : ∀ x : Later W [], x.w.cell? ⟨w.heap.size + 1, 2, none⟩ = some (.int .i64 dx) := fun x => cell_of_block (Later.at0 g1 x) rfl
          have f23 : ∀ x : Later W [], x.w.cell? ⟨w.heap.size + 1, 3, none⟩ = some (.int .i64 dy) := fun x => cell_of_block (Later.at0 g1 x) rfl
          repeat (refine walkT_step (fun K hK => ?_); go_simp; first | (refine hK _ _ ?_; clear hK K) | (refine ⟨_, fun x => refside_any _ _ _ _ _ _ _, ?_⟩; refine hK _ _ ?_; clear hK K))
          refine walkT_nil ?_
          intro w1 hc
          replace g0 := hc.at0 g0
          replace g1 := hc.at0 g1
          replace hb := hb.trans (hc.below.mono hb.size)
          replace hz := Nat.le_trans hz hc.kept.size
          clear hc f16 f17 f18 f19 f20 f21 f22 f23 W
          go_upto_region 6 with (fail)
          refine draws_hid (by kernel_rfl) (by kernel_rfl) (by kernel_rfl) (fun W hW ops hops => ?_)
          subst hW
          clear hops
          have f24 : ∀ x : Later W [], x.w.cell? ⟨w.heap.size, 0, none⟩ = some (.int .i64 ax) := fun x => cell_of_block (Later.at0 g0 x) rfl
          have f25 : ∀ x : Later W [], x.w.cell? ⟨w.heap.size, 1, none⟩ = some (.int .i64 ay) := fun x => cell_of_block (Later.at0 g0 x) rfl
          have f26 : ∀ x : Later W [], x.w.cell? ⟨w.heap.size, 2, none⟩ = some (.int .i64 bx) := fun x => cell_of_block (Later.at0 g0 x) rfl
          have f27 : ∀ x : Later W [], x.w.cell? ⟨w.heap.size, 3, none⟩ = some (.int .i64 by') := fun x => cell_of_block (Later.at0 g0 x) rfl
          have f28 : ∀ x : Later W [], x.w.cell? ⟨w.heap.size + 1, 0, none⟩ = some (.int .i64 cx) := fun x => cell_of_block (Later.at0 g1 x) rfl
          have f29 : ∀ x : Later W [], x.w.cell? ⟨w.heap.size + 1, 1, none⟩ = some (.int .i64 cy) := fun x => cell_of_block (Later.at0 g1 x) rfl
          have f30 : ∀ x : Later W [], x.w.cell? ⟨w.heap.size + 1, 2, none⟩ = some (.int .i64 dx) := fun x => cell_of_block (Later.at0 g1 x) rfl
          have f31 : ∀ x : Later W [], x.w.cell? ⟨w.heap.size + 1, 3, none⟩ = some (.int .i64 dy) := fun x => cell_of_block (Later.at0 g1 x) rfl
          repeat (refine walkT_step (fun K hK => ?_); go_simp; first | (refine hK _ _ ?_; clear hK K) | (refine ⟨_, fun x => refside_any _ _ _ _ _ _ _, ?_⟩; refine hK _ _ ?_; clear hK K))
          refine walkT_nil ?_
          intro w1 hc
          replace g0 := hc.at0 g0
          replace g1 := hc.at0 g1
          replace hb := hb.trans (hc.below.mono hb.size)
          replace hz := Nat.le_trans hz hc.kept.size
          clear hc f24 f25 f26 f27 f28 f29 f30 f31 W
          go_upto_region 7 with (fail)
          refine plain_hid (fun W hW ops hops => ?_)
          subst hW
          have o2 : (ops[2]?).bind (fun x => x.dst) = some 69 := by rw [hops]; rfl
          have o6 : (ops[6]?).bind (fun x => x.dst) = some 73 := by rw [hops]; rfl
          have o10 : (ops[10]?).bind (fun x => x.dst) = some 77 := by rw [hops]; rfl
          have o14 : (ops[14]?).bind (fun x => x.dst) = some 81 := by rw [hops]; rfl
          have o19 : (ops[19]?).bind (fun x => x.dst) = some 86 := by rw [hops]; rfl
          clear hops
          have f32 : ∀ x : Later W [], x.w.cell? ⟨w.heap.size, 0, none⟩ = some (.int .i64 ax) := fun x => cell_of_block (Later.at0 g0 x) rfl
          have f33 : ∀ x : Later W [], x.w.cell? ⟨w.heap.size, 1, none⟩ = some (.int .i64 ay) := fun x => cell_of_block (Later.at0 g0 x) rfl
          have f34 : ∀ x : Later W [], x.w.cell? ⟨w.heap.size, 2, none⟩ = some (.int .i64 bx) := fun x => cell_of_block (Later.at0 g0 x) rfl
          have f35 : ∀ x : Later W [], x.w.cell? ⟨w.heap.size, 3, none⟩ = some (.int .i64 by') := fun x => cell_of_block (Later.at0 g0 x) rfl
          have f36 : ∀ x : Later W [], x.w.cell? ⟨w.heap.size + 1, 0, none⟩ = some (.int .i64 cx) := fun x => cell_of_block (Later.at0 g1 x) rfl
          have f37 : ∀ x : Later W [], x.w.cell? ⟨w.heap.size + 1, 1, none⟩ = some (.int .i64 cy) := fun x => cell_of_block (Later.at0 g1 x) rfl
          have f38 : ∀ x : Later W [], x.w.cell? ⟨w.heap.size + 1, 2, none⟩ = some (.int .i64 dx) := fun x => cell_of_block (Later.at0 g1 x) rfl
          have f39 : ∀ x : Later W [], x.w.cell? ⟨w.heap.size + 1, 3, none⟩ = some (.int .i64 dy) := fun x => cell_of_block (Later.at0 g1 x) rfl
          have hs := split_ref (crossI ax ay bx by' cx cy) (crossI ax ay bx by' dx dy) (crossI cx cy dx dy ax ay) (crossI cx cy dx dy bx by')
          have HS := Lib.hid hs
          clear hs
          cases c1 : (cmpI (crossI ax ay bx by' cx cy) 0 != 0)
          ·
            repeat (refine walkT_step (fun K hK => ?_); go_simp; first | (refine hK _ _ ?_; clear hK K))
            refine walkT_nil ?_
            intro w2 hc
            replace g0 := hc.at0 g0
            replace g1 := hc.at0 g1
            replace hb := hb.trans (hc.below.mono hb.size)
            replace hz := Nat.le_trans hz hc.kept.size
            clear hc o2 o6 o10 o14 o19 f32 f33 f34 f35 f36 f37 f38 f39 W
            go_wp2
            go_ret
            exact ⟨ret_bool (by rw [u1, u2, u3, u4]; exact (fin_ref HS.out (by rw [c1] <;> rfl))), hb⟩
          ·
            cases c2 : (cmpI (crossI ax ay bx by' dx dy) 0 != 0)
            ·
              repeat (refine walkT_step (fun K hK => ?_); go_simp; first | (refine hK _ _ ?_; clear hK K))
              refine walkT_nil ?_
              intro w2 hc
              replace g0 := hc.at0 g0
              replace g1 := hc.at0 g1
              replace hb := hb.trans (hc.below.mono hb.size)
              replace hz := Nat.le_trans hz hc.kept.size
              clear hc o2 o6 o10 o14 o19 f32 f33 f34 f35 f36 f37 f38 f39 W
              go_wp2
              go_ret
              exact ⟨ret_bool (by rw [u1, u2, u3, u4]; exact (fin_ref HS.out (by rw [c1, c2] <;> rfl))), hb⟩
            ·
              cases c3 : (cmpI (crossI cx cy dx dy ax ay) 0 != 0)
              ·
                repeat (refine walkT_step (fun K hK => ?_); go_simp; first | (refine hK _ _ ?_; clear hK K))
                refine walkT_nil ?_
                intro w2 hc
                replace g0 := hc.at0 g0
                replace g1 := hc.at0 g1
                replace hb := hb.trans (hc.below.mono hb.size)
                replace hz := Nat.le_trans hz hc.kept.size
                clear hc o2 o6 o10 o14 o19 f32 f33 f34 f35 f36 f37 f38 f39 W
                go_wp2
                go_ret
                exact ⟨ret_bool (by rw [u1, u2, u3, u4]; exact (fin_ref HS.out (by rw [c1, c2, c3] <;> rfl))), hb⟩
              ·
                cases c4 : (cmpI (crossI cx cy dx dy bx by') 0 != 0)
                ·
                  repeat (refine walkT_step (fun K hK => ?_); go_simp; first | (refine hK _ _ ?_; clear hK K))
                  refine walkT_nil ?_
                  intro w2 hc
                  replace g0 := hc.at0 g0
                  replace g1 := hc.at0 g1
                  replace hb := hb.trans (hc.below.mono hb.size)
                  replace hz := Nat.le_trans hz hc.kept.size
                  clear hc o2 o6 o10 o14 o19 f32 f33 f34 f35 f36 f37 f38 f39 W
                  go_wp2
                  go_ret
                  exact ⟨ret_bool (by rw [u1, u2, u3, u4]; exact (fin_ref HS.out (by rw [c1, c2, c3, c4] <;> rfl))), hb⟩
                ·
                  cases c5 : (cmpI (crossI ax ay bx by' cx cy) 0 != cmpI (crossI ax ay bx by' dx dy) 0)
                  ·
                    repeat (refine walkT_step (fun K hK => ?_); go_simp; first | (refine hK _ _ ?_; clear hK K))
                    refine walkT_nil ?_
                    intro w2 hc
                    replace g0 := hc.at0 g0
                    replace g1 := hc.at0 g1
                    replace hb := hb.trans (hc.below.mono hb.size)
                    replace hz := Nat.le_trans hz hc.kept.size
                    clear hc o2 o6 o10 o14 o19 f32 f33 f34 f35 f36 f37 f38 f39 W
                    go_wp2
                    go_ret
                    exact ⟨ret_bool (by rw [u1, u2, u3, u4]; exact (fin_ref HS.out (by rw [c1, c2, c3, c4, c5] <;> rfl))), hb⟩
                  ·
                    repeat (refine walkT_step (fun K hK => ?_); go_simp; first | (refine hK _ _ ?_; clear hK K))
                    refine walkT_nil ?_
                    intro w2 hc
                    replace g0 := hc.at0 g0
                    replace g1 := hc.at0 g1
                    replace hb := hb.trans (hc.below.mono hb.size)
                    replace hz := Nat.le_trans hz hc.kept.size
                    clear hc o2 o6 o10 o14 o19 f32 f33 f34 f35 f36 f37 f38 f39 W
                    go_wp2
                    go_ret
                    exact ⟨ret_bool (by rw [u1, u2, u3, u4]; exact (fin_ref HS.out (by rw [c1, c2, c3, c4, c5] <;> rfl))), hb⟩
        ·
          repeat (refine walkT_step (fun K hK => ?_); go_simp; first | (refine hK _ _ ?_; clear hK K) | (refine ⟨_, fun x => refon_any _ _ _ _ _ _ _, ?_⟩; refine hK _ _ ?_; clear hK K))
          refine walkT_nil ?_
          intro w1 hc
          replace g0 := hc.at0 g0
          replace g1 := hc.at0 g1
          replace hb := hb.trans (hc.below.mono hb.size)
          replace hz := Nat.le_trans hz hc.kept.size
          clear hc o4 o10 o16 f8 f9 f10 f11 f12 f13 f14 f15 W
          go_wp2
          go_ret
          exact ⟨ret_bool (by rw [u1, u2, u3, u4] <;> rfl), hb⟩
      ·
        repeat (refine walkT_step (fun K hK => ?_); go_simp; first | (refine hK _ _ ?_; clear hK K) | (refine ⟨_, fun x => refon_any _ _ _ _ _ _ _, ?_⟩; refine hK _ _ ?_; clear hK K))
        refine walkT_nil ?_
        intro w1 hc
        replace g0 := hc.at0 g0
        replace g1 := hc.at0 g1
        replace hb := hb.trans (hc.below.mono hb.size)
        replace hz := Nat.le_trans hz hc.kept.size
        clear hc o4 o10 o16 f8 f9 f10 f11 f12 f13 f14 f15 W
        go_wp2
        go_ret
        exact ⟨ret_bool (by rw [u1, u2, u3] <;> rfl), hb⟩
    ·
      repeat (refine walkT_step (fun K hK => ?_); go_simp; first | (refine hK _ _ ?_; clear hK K) | (refine ⟨_, fun x => refon_any _ _ _ _ _ _ _, ?_⟩; refine hK _ _ ?_; clear hK K))
      refine walkT_nil ?_
      intro w1 hc
      replace g0 := hc.at0 g0
      replace g1 := hc.at0 g1
      replace hb := hb.trans (hc.below.mono hb.size)
      replace hz := Nat.le_trans hz hc.kept.size
      clear hc o4 o10 o16 f8 f9 f10 f11 f12 f13 f14 f15 W
      go_wp2
      go_ret
      exact ⟨ret_bool (by rw [u1, u2] <;> rfl), hb⟩
  ·
    repeat (refine walkT_step (fun K hK => ?_); go_simp; first | (refine hK _ _ ?_; clear hK K) | (refine ⟨_, fun x => refon_any _ _ _ _ _ _ _, ?_⟩; refine hK _ _ ?_; clear hK K))
    refine walkT_nil ?_
    intro w1 hc
    replace g0 := hc.at0 g0
    replace g1 := hc.at0 g1
    replace hb := hb.trans (hc.below.mono hb.size)
    replace hz := Nat.le_trans hz hc.kept.size
    clear hc o4 o10 o16 f8 f9 f10 f11 f12 f13 f14 f15 W
    go_wp2
    go_ret
    exact ⟨ret_bool (by rw [u1] <;> rfl), hb⟩

theorem reftouch_any (ax ay bx by' cx cy dx dy : Int) (w : World) : Calls Try.prog 36 #[.agg #[.int .i64 ax, .int .i64 ay, .int .i64 bx, .int .i64 by'], .agg #[.int .i64 cx, .int .i64 cy, .int .i64 dx, .int .i64 dy]] w fun e w' => e = .returned (.bool (touchB ax ay bx by' cx cy dx dy)) ∧ Below w.heap.size w w' := by
  unfold touchB
  cases h : (lineB ax ay bx by' && lineB cx cy dx dy)
  · exact reftouch_no ax ay bx by' cx cy dx dy w h
  · rw [Bool.and_eq_true] at h
    rw [Bool.true_and]
    exact reftouch_yes ax ay bx by' cx cy dx dy w h.1 h.2

end Go.Proofs.Ytcpjgcpclekjkaa
