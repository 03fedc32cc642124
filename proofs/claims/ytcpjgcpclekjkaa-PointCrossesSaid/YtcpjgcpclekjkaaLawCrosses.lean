/-
  PROVED: PointCrosses: which points there may be, twice the area of any three, how far one goes along a line, and which is ahead, as the document's answer has it. CONDITIONS: none: for every three points.
-/
import Derived.Test.YtcpjgcpclekjkaaTurn2
import Derived.Test.YtcpjgcpclekjkaaKit
import Derived.Lib.Hide
namespace Go.Proofs.Ytcpjgcpclekjkaa
open Go.RowKit Go.Proofs.Ytcpjgcpclekjkaa.Tame
set_option maxHeartbeats 400000


theorem tPt : Try.prog.cellTypes Try.prog.depth 23 = some [3, 3] := by kernel_rfl
theorem cPt : Try.prog.cellsOf 23 = 2 := by kernel_rfl
theorem uInt : ∀ u, u ∈ ([3, 3] : List TypeId) → Try.prog.underlying u = some (.int .i64) := by
  intro u hu; simp at hu; subst hu; exact Try.underlying3


set_option maxHeartbeats 2000000 in
theorem crosses_all (ax ay bx by' cx cy : Int) (w : World) : Calls Try.prog 4 #[.agg #[.int .i64 ax, .int .i64 ay], .agg #[.int .i64 bx, .int .i64 by'], .agg #[.int .i64 cx, .int .i64 cy]] w fun e w' => e = .returned (.bool true) ∧ Below w.heap.size w w' := by
  go_enter Try.func4, Try.ntmps4
  go_upto_region 1 with (fail)
  go_cut [7] (fun s7 wx => s7 = .bool (lessB ax ay bx by') ∧ Below w.heap.size w wx ∧ wx.heap[w.heap.size]? = some (.cells #[.int .i64 ax, .int .i64 ay] 23) ∧ wx.heap[w.heap.size + 1]? = some (.cells #[.int .i64 bx, .int .i64 by'] 23) ∧ wx.heap[w.heap.size + 1 + 1]? = some (.cells #[.int .i64 cx, .int .i64 cy] 23))
  case first =>
    cases h1 : mayB ax ay
    ·
      have hl : lessB ax ay bx by' = (mayB ax ay && mayB bx by' && (decide (ax < bx) || (ax == bx && decide (ay < by')))) := rfl
      rw [h1] at hl
      have HL := Lib.hid hl
      clear hl
      refine plain_hid (fun W hW ops hops => ?_)
      have hb : Below w.heap.size w W := by rw [hW]; go_grown
      have g0 : W.heap[w.heap.size]? = some (.cells #[.int .i64 ax, .int .i64 ay] 23) := by rw [hW]; exact heap_alloc_lt (heap_alloc_lt (heap_alloc_is (rfl)))
      have g1 : W.heap[w.heap.size + 1]? = some (.cells #[.int .i64 bx, .int .i64 by'] 23) := by rw [hW]; exact heap_alloc_lt (heap_alloc_is (by simp))
      have g2 : W.heap[w.heap.size + 1 + 1]? = some (.cells #[.int .i64 cx, .int .i64 cy] 23) := by rw [hW]; exact heap_alloc_is (by simp)
      clear hW
      have o2 : (ops[2]?).bind (fun x => x.dst) = some 10 := by rw [hops]; rfl
      have o6 : (ops[6]?).bind (fun x => x.dst) = some 14 := by rw [hops]; rfl
      have o12 : (ops[12]?).bind (fun x => x.dst) = some 20 := by rw [hops]; rfl
      have o18 : (ops[18]?).bind (fun x => x.dst) = some 26 := by rw [hops]; rfl
      clear hops
      have f0 : ∀ x : Later W, x.w.cell? ⟨w.heap.size, 0, none⟩ = some (.int .i64 ax) := fun x => cell_of_block (Later.at g0 x) rfl
      have f1 : ∀ x : Later W, x.w.cell? ⟨w.heap.size, 1, none⟩ = some (.int .i64 ay) := fun x => cell_of_block (Later.at g0 x) rfl
      have f2 : ∀ x : Later W, x.w.cell? ⟨w.heap.size + 1, 0, none⟩ = some (.int .i64 bx) := fun x => cell_of_block (Later.at g1 x) rfl
      have f3 : ∀ x : Later W, x.w.cell? ⟨w.heap.size + 1, 1, none⟩ = some (.int .i64 by') := fun x => cell_of_block (Later.at g1 x) rfl
      have f4 : ∀ x : Later W, x.w.cell? ⟨w.heap.size + 1 + 1, 0, none⟩ = some (.int .i64 cx) := fun x => cell_of_block (Later.at g2 x) rfl
      have f5 : ∀ x : Later W, x.w.cell? ⟨w.heap.size + 1 + 1, 1, none⟩ = some (.int .i64 cy) := fun x => cell_of_block (Later.at g2 x) rfl
      repeat (refine walkT_step (fun K hK => ?_); go_simp; first | (refine hK _ _ ?_; clear hK K) | (refine ⟨_, fun x => refmay_any _ _ _, ?_⟩; refine hK _ _ ?_; clear hK K))
      refine walkT_nil ?_
      intro w1 hc
      replace g0 := hc.at g0
      replace g1 := hc.at g1
      replace g2 := hc.at g2
      replace hb := hb.trans (hc.below.mono hb.size)
      clear hc o2 o6 o12 o18 f0 f1 f2 f3 f4 f5 W
      go_wp2_with fail
      go_meet
      exact ⟨(congrArg Value.bool HL.out).symm, hb, g0, g1, g2⟩
    ·
      cases h2 : mayB bx by'
      ·
        have hl : lessB ax ay bx by' = (mayB ax ay && mayB bx by' && (decide (ax < bx) || (ax == bx && decide (ay < by')))) := rfl
        rw [h1, h2] at hl
        have HL := Lib.hid hl
        clear hl
        refine plain_hid (fun W hW ops hops => ?_)
        have hb : Below w.heap.size w W := by rw [hW]; go_grown
        have g0 : W.heap[w.heap.size]? = some (.cells #[.int .i64 ax, .int .i64 ay] 23) := by rw [hW]; exact heap_alloc_lt (heap_alloc_lt (heap_alloc_is (rfl)))
        have g1 : W.heap[w.heap.size + 1]? = some (.cells #[.int .i64 bx, .int .i64 by'] 23) := by rw [hW]; exact heap_alloc_lt (heap_alloc_is (by simp))
        have g2 : W.heap[w.heap.size + 1 + 1]? = some (.cells #[.int .i64 cx, .int .i64 cy] 23) := by rw [hW]; exact heap_alloc_is (by simp)
        clear hW
        have o2 : (ops[2]?).bind (fun x => x.dst) = some 10 := by rw [hops]; rfl
        have o6 : (ops[6]?).bind (fun x => x.dst) = some 14 := by rw [hops]; rfl
        have o12 : (ops[12]?).bind (fun x => x.dst) = some 20 := by rw [hops]; rfl
        have o18 : (ops[18]?).bind (fun x => x.dst) = some 26 := by rw [hops]; rfl
        clear hops
        have f0 : ∀ x : Later W, x.w.cell? ⟨w.heap.size, 0, none⟩ = some (.int .i64 ax) := fun x => cell_of_block (Later.at g0 x) rfl
        have f1 : ∀ x : Later W, x.w.cell? ⟨w.heap.size, 1, none⟩ = some (.int .i64 ay) := fun x => cell_of_block (Later.at g0 x) rfl
        have f2 : ∀ x : Later W, x.w.cell? ⟨w.heap.size + 1, 0, none⟩ = some (.int .i64 bx) := fun x => cell_of_block (Later.at g1 x) rfl
        have f3 : ∀ x : Later W, x.w.cell? ⟨w.heap.size + 1, 1, none⟩ = some (.int .i64 by') := fun x => cell_of_block (Later.at g1 x) rfl
        have f4 : ∀ x : Later W, x.w.cell? ⟨w.heap.size + 1 + 1, 0, none⟩ = some (.int .i64 cx) := fun x => cell_of_block (Later.at g2 x) rfl
        have f5 : ∀ x : Later W, x.w.cell? ⟨w.heap.size + 1 + 1, 1, none⟩ = some (.int .i64 cy) := fun x => cell_of_block (Later.at g2 x) rfl
        repeat (refine walkT_step (fun K hK => ?_); go_simp; first | (refine hK _ _ ?_; clear hK K) | (refine ⟨_, fun x => refmay_any _ _ _, ?_⟩; refine hK _ _ ?_; clear hK K))
        refine walkT_nil ?_
        intro w1 hc
        replace g0 := hc.at g0
        replace g1 := hc.at g1
        replace g2 := hc.at g2
        replace hb := hb.trans (hc.below.mono hb.size)
        clear hc o2 o6 o12 o18 f0 f1 f2 f3 f4 f5 W
        go_wp2_with fail
        go_meet
        exact ⟨(congrArg Value.bool HL.out).symm, hb, g0, g1, g2⟩
      ·
        cases h3 : decide (ax < bx) <;> cases h4 : (ax == bx)
        all_goals
          have hl : lessB ax ay bx by' = (mayB ax ay && mayB bx by' && (decide (ax < bx) || (ax == bx && decide (ay < by')))) := rfl
          rw [h1, h2, h3, h4] at hl
          have h3' := h3
          simp only [decide_eq_true_eq, decide_eq_false_iff_not] at h3'
          have HL := Lib.hid hl
          clear hl
          refine plain_hid (fun W hW ops hops => ?_)
          have hb : Below w.heap.size w W := by rw [hW]; go_grown
          have g0 : W.heap[w.heap.size]? = some (.cells #[.int .i64 ax, .int .i64 ay] 23) := by rw [hW]; exact heap_alloc_lt (heap_alloc_lt (heap_alloc_is (rfl)))
          have g1 : W.heap[w.heap.size + 1]? = some (.cells #[.int .i64 bx, .int .i64 by'] 23) := by rw [hW]; exact heap_alloc_lt (heap_alloc_is (by simp))
          have g2 : W.heap[w.heap.size + 1 + 1]? = some (.cells #[.int .i64 cx, .int .i64 cy] 23) := by rw [hW]; exact heap_alloc_is (by simp)
          clear hW
          have o2 : (ops[2]?).bind (fun x => x.dst) = some 10 := by rw [hops]; rfl
          have o6 : (ops[6]?).bind (fun x => x.dst) = some 14 := by rw [hops]; rfl
          have o12 : (ops[12]?).bind (fun x => x.dst) = some 20 := by rw [hops]; rfl
          have o18 : (ops[18]?).bind (fun x => x.dst) = some 26 := by rw [hops]; rfl
          clear hops
          have f0 : ∀ x : Later W, x.w.cell? ⟨w.heap.size, 0, none⟩ = some (.int .i64 ax) := fun x => cell_of_block (Later.at g0 x) rfl
          have f1 : ∀ x : Later W, x.w.cell? ⟨w.heap.size, 1, none⟩ = some (.int .i64 ay) := fun x => cell_of_block (Later.at g0 x) rfl
          have f2 : ∀ x : Later W, x.w.cell? ⟨w.heap.size + 1, 0, none⟩ = some (.int .i64 bx) := fun x => cell_of_block (Later.at g1 x) rfl
          have f3 : ∀ x : Later W, x.w.cell? ⟨w.heap.size + 1, 1, none⟩ = some (.int .i64 by') := fun x => cell_of_block (Later.at g1 x) rfl
          have f4 : ∀ x : Later W, x.w.cell? ⟨w.heap.size + 1 + 1, 0, none⟩ = some (.int .i64 cx) := fun x => cell_of_block (Later.at g2 x) rfl
          have f5 : ∀ x : Later W, x.w.cell? ⟨w.heap.size + 1 + 1, 1, none⟩ = some (.int .i64 cy) := fun x => cell_of_block (Later.at g2 x) rfl
          repeat (refine walkT_step (fun K hK => ?_); go_simp; first | (refine hK _ _ ?_; clear hK K) | (refine ⟨_, fun x => refmay_any _ _ _, ?_⟩; refine hK _ _ ?_; clear hK K))
          refine walkT_nil ?_
          intro w1 hc
          replace g0 := hc.at g0
          replace g1 := hc.at g1
          replace g2 := hc.at g2
          replace hb := hb.trans (hc.below.mono hb.size)
          clear hc o2 o6 o12 o18 f0 f1 f2 f3 f4 f5 W
          go_wp2_with fail
          go_meet
          exact ⟨(congrArg Value.bool HL.out).symm, hb, g0, g1, g2⟩
  case rest =>
    obtain ⟨rfl, hb, g0, g1, g2⟩ := hcut
    go_upto_region 2 with (fail)
    refine draws_hid (by kernel_rfl) (by kernel_rfl) (by kernel_rfl) (fun W hW ops hops => ?_)
    subst hW
    have o5 : (ops[5]?).bind (fun x => x.dst) = some 40 := by rw [hops]; rfl
    have o16 : (ops[16]?).bind (fun x => x.dst) = some 51 := by rw [hops]; rfl
    have o27 : (ops[27]?).bind (fun x => x.dst) = some 62 := by rw [hops]; rfl
    have o37 : (ops[37]?).bind (fun x => x.dst) = some 72 := by rw [hops]; rfl
    have o44 : (ops[44]?).bind (fun x => x.dst) = some 79 := by rw [hops]; rfl
    clear hops
    have f6 : ∀ x : Later W, x.w.cell? ⟨w.heap.size, 0, none⟩ = some (.int .i64 ax) := fun x => cell_of_block (Later.at g0 x) rfl
    have f7 : ∀ x : Later W, x.w.cell? ⟨w.heap.size, 1, none⟩ = some (.int .i64 ay) := fun x => cell_of_block (Later.at g0 x) rfl
    have f8 : ∀ x : Later W, x.w.cell? ⟨w.heap.size + 1, 0, none⟩ = some (.int .i64 bx) := fun x => cell_of_block (Later.at g1 x) rfl
    have f9 : ∀ x : Later W, x.w.cell? ⟨w.heap.size + 1, 1, none⟩ = some (.int .i64 by') := fun x => cell_of_block (Later.at g1 x) rfl
    have f10 : ∀ x : Later W, x.w.cell? ⟨w.heap.size + 1 + 1, 0, none⟩ = some (.int .i64 cx) := fun x => cell_of_block (Later.at g2 x) rfl
    have f11 : ∀ x : Later W, x.w.cell? ⟨w.heap.size + 1 + 1, 1, none⟩ = some (.int .i64 cy) := fun x => cell_of_block (Later.at g2 x) rfl
    repeat (refine walkT_step (fun K hK => ?_); go_simp; first | (refine hK _ _ ?_; clear hK K) | (refine ⟨_, fun x => may_any _ _ _, ?_⟩; refine hK _ _ ?_; clear hK K) | (refine ⟨_, fun x => refmay_any _ _ _, ?_⟩; refine hK _ _ ?_; clear hK K) | (refine ⟨_, fun x => cross_any _ _ _ _ _ _ _, ?_⟩; refine hK _ _ ?_; clear hK K) | (refine ⟨_, fun x => refcross_any _ _ _ _ _ _ _, ?_⟩; refine hK _ _ ?_; clear hK K) | (refine ⟨_, fun x => dot_any _ _ _ _ _ _ _, ?_⟩; refine hK _ _ ?_; clear hK K) | (refine ⟨_, fun x => refdot_any _ _ _ _ _ _ _, ?_⟩; refine hK _ _ ?_; clear hK K) | (refine ⟨_, fun x => far_any _ _ _ _ _, ?_⟩; refine hK _ _ ?_; clear hK K) | (refine ⟨_, fun x => less_any _ _ _ _ _, ?_⟩; refine hK _ _ ?_; clear hK K) | (refine ⟨_, fun x => awake_any _, ?_⟩; refine hK _ _ ?_; clear hK K))
    refine walkT_nil ?_
    intro w2 hc
    replace g0 := hc.at g0
    replace g1 := hc.at g1
    replace g2 := hc.at g2
    replace hb := hb.trans (hc.below.mono hb.size)
    clear hc o5 o16 o27 o37 o44 f6 f7 f8 f9 f10 f11 W
    go_wp2
    go_ret
    exact ⟨rfl, hb⟩


namespace pointCrosses
open Go.ChangeShapes Go.WideShapes Go.ChangeAt
theorem spec_is (H : Type) : ∀ ds : List (DataW H), ds.length = 3 → Rows.pointCrossesSpec.fn H ds = { results := [.lit (.bool true)], args := ds }
  | [], h => by cases h
  | [_], h => by cases h
  | [_, _], h => by cases h
  | [_, _, _], _ => rfl
  | _ :: _ :: _ :: _ :: _, h => by simp at h

theorem args_of {args : Array Value} (h : args.size = 3) : ∃ v0 v1 v2, args = #[v0, v1, v2] := by
  refine ⟨args[0], args[1], args[2], ?_⟩
  apply Array.ext
  · simpa using h
  · intro i h1 h2
    match i, h1 with
    | 0, _ => rfl
    | 1, _ => rfl
    | 2, _ => rfl
    | m + 3, hm => exact absurd hm (by omega)

set_option maxRecDepth 100000 in
theorem over : Rows.pointCrossesRow.holds Try.pinned (OpenSpec.ofChange Rows.pointCrossesSpec) :=
  OpenClaim.holds_of_wide 4 Try.f4 rfl rfl rfl rfl rfl rfl rfl ⟨rfl, rfl, rfl, rfl, rfl⟩ rfl rfl rfl rfl rfl (by kernel_rfl) Try.func4 (by kernel_rfl)
    (of_decide_eq_true (by kernel_rfl)) (by unfold Func.isWrapper; first | (rw [if_pos (by decide +kernel)]; kernel_rfl) | (rw [if_neg (by decide +kernel)]; exact ⟨rfl, rfl⟩))
    (fun os started H enc _ => Kit.lifted (C := Try.checked) (tb := 4) (n := 3) (by kernel_rfl) (by kernel_rfl) (by kernel_rfl) Try.func4 rfl (by kernel_rfl) Try.underlying4 (by kernel_rfl)
      (by
        have e : Try.f4.params.toList = [23, 23, 23] := by rw [Try.params4]
        rw [e]
        intro t ht
        simp only [List.mem_cons, List.not_mem_nil, or_false] at ht
        rcases ht with rfl | rfl | rfl <;> exact ⟨by kernel_rfl, of_decide_eq_true (by kernel_rfl)⟩)
      spec_is
      (by
        intro W base args H enc ds p hn hval hA hfz hz
        obtain ⟨v0, v1, v2, rfl⟩ := args_of hn
        rw [Try.params4] at hval
        have k0 := hval 0 23 v0 rfl rfl
        have k1 := hval 1 23 v1 rfl rfl
        have k2 := hval 2 23 v2 rfl rfl
        clear hval
        obtain ⟨ax, ay, rfl, _, _⟩ := Kit.agg2_of Try.underlying23 cPt tPt uInt k0
        obtain ⟨bx, by', rfl, _, _⟩ := Kit.agg2_of Try.underlying23 cPt tPt uInt k1
        obtain ⟨cx, cy, rfl, _, _⟩ := Kit.agg2_of Try.underlying23 cPt tPt uInt k2
        exact crosses_all ax ay bx by' cx cy W)
      os started H enc
      (ChangeSpec.witness6 (enc := enc) (C := Try.checked) false ⟨#[], #[.agg #[.int .i64 0, .int .i64 0], .agg #[.int .i64 0, .int .i64 0], .agg #[.int .i64 0, .int .i64 0]], []⟩ 8 (by kernel_rfl) (by kernel_rfl) (by kernel_rfl) (by kernel_rfl)))
end pointCrosses

/-- THE STATEMENT. -/
theorem pointCrosses_holds : Rows.PointCrossesSaid := pointCrosses.over
#print axioms pointCrosses_holds

end Go.Proofs.Ytcpjgcpclekjkaa
