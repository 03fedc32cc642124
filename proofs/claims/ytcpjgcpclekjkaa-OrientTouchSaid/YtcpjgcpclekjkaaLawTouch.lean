/-
  PROVED: OrientTouch: whether any two lines lie on one straight line, and have a point in common; either way, and turned about, as the document's answer has it. CONDITIONS: none: for every two lines.
-/
import Derived.Test.YtcpjgcpclekjkaaOri3
import Derived.Test.YtcpjgcpclekjkaaOriLaws
import Derived.Test.YtcpjgcpclekjkaaKit
import Derived.Lib.Hide
namespace Go.Proofs.Ytcpjgcpclekjkaa
open Go.RowKit Go.Proofs.Ytcpjgcpclekjkaa.Tame
set_option maxHeartbeats 400000


theorem tPt : Try.prog.cellTypes Try.prog.depth 23 = some [3, 3] := by kernel_rfl
theorem cPt : Try.prog.cellsOf 23 = 2 := by kernel_rfl
theorem uInt : ∀ u, u ∈ ([3, 3] : List TypeId) → Try.prog.underlying u = some (.int .i64) := by
  intro u hu; simp at hu; subst hu; exact Try.underlying3

theorem tSeg : Try.prog.cellTypes Try.prog.depth 34 = some [3, 3, 3, 3] := by kernel_rfl
theorem cSeg : Try.prog.cellsOf 34 = 4 := by kernel_rfl
theorem uSeg : ∀ u, u ∈ ([3, 3, 3, 3] : List TypeId) → Try.prog.underlying u = some (.int .i64) := by
  intro u hu; simp at hu; subst hu; exact Try.underlying3


set_option maxRecDepth 100000 in
set_option maxHeartbeats 4000000 in
theorem touches_all (ax ay bx by' cx cy dx dy : Int) (w : World) : Calls Try.prog 8 #[.agg #[.int .i64 ax, .int .i64 ay, .int .i64 bx, .int .i64 by'], .agg #[.int .i64 cx, .int .i64 cy, .int .i64 dx, .int .i64 dy]] w fun e w' => e = .returned (.bool true) ∧ Below w.heap.size w w' := by
  go_enter Try.func8, Try.ntmps8
  go_upto_region 1 with (fail)
  go_cut [5] (fun s5 wx => s5 = .bool (alongB ax ay bx by' cx cy dx dy) ∧ Below w.heap.size w wx ∧ w.heap.size + 2 ≤ wx.heap.size ∧ wx.heap[w.heap.size]? = some (.cells #[.int .i64 ax, .int .i64 ay, .int .i64 bx, .int .i64 by'] 34) ∧ wx.heap[w.heap.size + 1]? = some (.cells #[.int .i64 cx, .int .i64 cy, .int .i64 dx, .int .i64 dy] 34))
  case first =>
    have hl : alongB ax ay bx by' cx cy dx dy = (lineB ax ay bx by' && lineB cx cy dx dy && (crossI ax ay bx by' cx cy == 0) && (crossI ax ay bx by' dx dy == 0)) := rfl
    cases h1 : lineB ax ay bx by'
    ·
      rw [h1] at hl
      have HL := Lib.hid hl
      clear hl
      refine plain_hid (fun W hW ops hops => ?_)
      have hb : Below w.heap.size w W := by rw [hW]; go_grown
      have hz : w.heap.size + 2 ≤ W.heap.size := by rw [hW]; simp
      have g0 : W.heap[w.heap.size]? = some (.cells #[.int .i64 ax, .int .i64 ay, .int .i64 bx, .int .i64 by'] 34) := by rw [hW]; exact heap_alloc_lt (heap_alloc_is (rfl))
      have g1 : W.heap[w.heap.size + 1]? = some (.cells #[.int .i64 cx, .int .i64 cy, .int .i64 dx, .int .i64 dy] 34) := by rw [hW]; exact heap_alloc_is (by simp)
      clear hW
      have o2 : (ops[2]?).bind (fun x => x.dst) = some 10 := by rw [hops]; rfl
      have o6 : (ops[6]?).bind (fun x => x.dst) = some 14 := by rw [hops]; rfl
      have o16 : (ops[16]?).bind (fun x => x.dst) = some 24 := by rw [hops]; rfl
      clear hops
      have f0 : ∀ x : Later W [], x.w.cell? ⟨w.heap.size, 0, none⟩ = some (.int .i64 ax) := fun x => cell_of_block (Later.at0 g0 x) rfl
      have f1 : ∀ x : Later W [], x.w.cell? ⟨w.heap.size, 1, none⟩ = some (.int .i64 ay) := fun x => cell_of_block (Later.at0 g0 x) rfl
      have f2 : ∀ x : Later W [], x.w.cell? ⟨w.heap.size, 2, none⟩ = some (.int .i64 bx) := fun x => cell_of_block (Later.at0 g0 x) rfl
      have f3 : ∀ x : Later W [], x.w.cell? ⟨w.heap.size, 3, none⟩ = some (.int .i64 by') := fun x => cell_of_block (Later.at0 g0 x) rfl
      have f4 : ∀ x : Later W [], x.w.cell? ⟨w.heap.size + 1, 0, none⟩ = some (.int .i64 cx) := fun x => cell_of_block (Later.at0 g1 x) rfl
      have f5 : ∀ x : Later W [], x.w.cell? ⟨w.heap.size + 1, 1, none⟩ = some (.int .i64 cy) := fun x => cell_of_block (Later.at0 g1 x) rfl
      have f6 : ∀ x : Later W [], x.w.cell? ⟨w.heap.size + 1, 2, none⟩ = some (.int .i64 dx) := fun x => cell_of_block (Later.at0 g1 x) rfl
      have f7 : ∀ x : Later W [], x.w.cell? ⟨w.heap.size + 1, 3, none⟩ = some (.int .i64 dy) := fun x => cell_of_block (Later.at0 g1 x) rfl
      repeat (refine walkT_step (fun K hK => ?_); go_simp; first | (refine hK _ _ ?_; clear hK K) | (refine ⟨_, fun x => refline_any _ _ _ _ _, ?_⟩; refine hK _ _ ?_; clear hK K) | (refine ⟨_, fun x => refcross_any _ _ _ _ _ _ _, ?_⟩; refine hK _ _ ?_; clear hK K))
      refine walkT_nil ?_
      intro w1 hc
      replace g0 := hc.at0 g0
      replace g1 := hc.at0 g1
      replace hb := hb.trans (hc.below.mono hb.size)
      replace hz := Nat.le_trans hz hc.kept.size
      clear hc o2 o6 o16 f0 f1 f2 f3 f4 f5 f6 f7 W
      go_wp2_with fail
      go_meet
      exact ⟨(congrArg Value.bool HL.out).symm, hb, hz, g0, g1⟩
    ·
      cases h2 : lineB cx cy dx dy
      ·
        rw [h1, h2] at hl
        have HL := Lib.hid hl
        clear hl
        refine plain_hid (fun W hW ops hops => ?_)
        have hb : Below w.heap.size w W := by rw [hW]; go_grown
        have hz : w.heap.size + 2 ≤ W.heap.size := by rw [hW]; simp
        have g0 : W.heap[w.heap.size]? = some (.cells #[.int .i64 ax, .int .i64 ay, .int .i64 bx, .int .i64 by'] 34) := by rw [hW]; exact heap_alloc_lt (heap_alloc_is (rfl))
        have g1 : W.heap[w.heap.size + 1]? = some (.cells #[.int .i64 cx, .int .i64 cy, .int .i64 dx, .int .i64 dy] 34) := by rw [hW]; exact heap_alloc_is (by simp)
        clear hW
        have o2 : (ops[2]?).bind (fun x => x.dst) = some 10 := by rw [hops]; rfl
        have o6 : (ops[6]?).bind (fun x => x.dst) = some 14 := by rw [hops]; rfl
        have o16 : (ops[16]?).bind (fun x => x.dst) = some 24 := by rw [hops]; rfl
        clear hops
        have f0 : ∀ x : Later W [], x.w.cell? ⟨w.heap.size, 0, none⟩ = some (.int .i64 ax) := fun x => cell_of_block (Later.at0 g0 x) rfl
        have f1 : ∀ x : Later W [], x.w.cell? ⟨w.heap.size, 1, none⟩ = some (.int .i64 ay) := fun x => cell_of_block (Later.at0 g0 x) rfl
        have f2 : ∀ x : Later W [], x.w.cell? ⟨w.heap.size, 2, none⟩ = some (.int .i64 bx) := fun x => cell_of_block (Later.at0 g0 x) rfl
        have f3 : ∀ x : Later W [], x.w.cell? ⟨w.heap.size, 3, none⟩ = some (.int .i64 by') := fun x => cell_of_block (Later.at0 g0 x) rfl
        have f4 : ∀ x : Later W [], x.w.cell? ⟨w.heap.size + 1, 0, none⟩ = some (.int .i64 cx) := fun x => cell_of_block (Later.at0 g1 x) rfl
        have f5 : ∀ x : Later W [], x.w.cell? ⟨w.heap.size + 1, 1, none⟩ = some (.int .i64 cy) := fun x => cell_of_block (Later.at0 g1 x) rfl
        have f6 : ∀ x : Later W [], x.w.cell? ⟨w.heap.size + 1, 2, none⟩ = some (.int .i64 dx) := fun x => cell_of_block (Later.at0 g1 x) rfl
        have f7 : ∀ x : Later W [], x.w.cell? ⟨w.heap.size + 1, 3, none⟩ = some (.int .i64 dy) := fun x => cell_of_block (Later.at0 g1 x) rfl
        repeat (refine walkT_step (fun K hK => ?_); go_simp; first | (refine hK _ _ ?_; clear hK K) | (refine ⟨_, fun x => refline_any _ _ _ _ _, ?_⟩; refine hK _ _ ?_; clear hK K) | (refine ⟨_, fun x => refcross_any _ _ _ _ _ _ _, ?_⟩; refine hK _ _ ?_; clear hK K))
        refine walkT_nil ?_
        intro w1 hc
        replace g0 := hc.at0 g0
        replace g1 := hc.at0 g1
        replace hb := hb.trans (hc.below.mono hb.size)
        replace hz := Nat.le_trans hz hc.kept.size
        clear hc o2 o6 o16 f0 f1 f2 f3 f4 f5 f6 f7 W
        go_wp2_with fail
        go_meet
        exact ⟨(congrArg Value.bool HL.out).symm, hb, hz, g0, g1⟩
      ·
        cases h3 : (crossI ax ay bx by' cx cy == 0)
        ·
          rw [h1, h2, h3] at hl
          have HL := Lib.hid hl
          clear hl
          refine plain_hid (fun W hW ops hops => ?_)
          have hb : Below w.heap.size w W := by rw [hW]; go_grown
          have hz : w.heap.size + 2 ≤ W.heap.size := by rw [hW]; simp
          have g0 : W.heap[w.heap.size]? = some (.cells #[.int .i64 ax, .int .i64 ay, .int .i64 bx, .int .i64 by'] 34) := by rw [hW]; exact heap_alloc_lt (heap_alloc_is (rfl))
          have g1 : W.heap[w.heap.size + 1]? = some (.cells #[.int .i64 cx, .int .i64 cy, .int .i64 dx, .int .i64 dy] 34) := by rw [hW]; exact heap_alloc_is (by simp)
          clear hW
          have o2 : (ops[2]?).bind (fun x => x.dst) = some 10 := by rw [hops]; rfl
          have o6 : (ops[6]?).bind (fun x => x.dst) = some 14 := by rw [hops]; rfl
          have o16 : (ops[16]?).bind (fun x => x.dst) = some 24 := by rw [hops]; rfl
          clear hops
          have f0 : ∀ x : Later W [], x.w.cell? ⟨w.heap.size, 0, none⟩ = some (.int .i64 ax) := fun x => cell_of_block (Later.at0 g0 x) rfl
          have f1 : ∀ x : Later W [], x.w.cell? ⟨w.heap.size, 1, none⟩ = some (.int .i64 ay) := fun x => cell_of_block (Later.at0 g0 x) rfl
          have f2 : ∀ x : Later W [], x.w.cell? ⟨w.heap.size, 2, none⟩ = some (.int .i64 bx) := fun x => cell_of_block (Later.at0 g0 x) rfl
          have f3 : ∀ x : Later W [], x.w.cell? ⟨w.heap.size, 3, none⟩ = some (.int .i64 by') := fun x => cell_of_block (Later.at0 g0 x) rfl
          have f4 : ∀ x : Later W [], x.w.cell? ⟨w.heap.size + 1, 0, none⟩ = some (.int .i64 cx) := fun x => cell_of_block (Later.at0 g1 x) rfl
          have f5 : ∀ x : Later W [], x.w.cell? ⟨w.heap.size + 1, 1, none⟩ = some (.int .i64 cy) := fun x => cell_of_block (Later.at0 g1 x) rfl
          have f6 : ∀ x : Later W [], x.w.cell? ⟨w.heap.size + 1, 2, none⟩ = some (.int .i64 dx) := fun x => cell_of_block (Later.at0 g1 x) rfl
          have f7 : ∀ x : Later W [], x.w.cell? ⟨w.heap.size + 1, 3, none⟩ = some (.int .i64 dy) := fun x => cell_of_block (Later.at0 g1 x) rfl
          repeat (refine walkT_step (fun K hK => ?_); go_simp; first | (refine hK _ _ ?_; clear hK K) | (refine ⟨_, fun x => refline_any _ _ _ _ _, ?_⟩; refine hK _ _ ?_; clear hK K) | (refine ⟨_, fun x => refcross_any _ _ _ _ _ _ _, ?_⟩; refine hK _ _ ?_; clear hK K))
          refine walkT_nil ?_
          intro w1 hc
          replace g0 := hc.at0 g0
          replace g1 := hc.at0 g1
          replace hb := hb.trans (hc.below.mono hb.size)
          replace hz := Nat.le_trans hz hc.kept.size
          clear hc o2 o6 o16 f0 f1 f2 f3 f4 f5 f6 f7 W
          go_wp2_with fail
          go_meet
          exact ⟨(congrArg Value.bool HL.out).symm, hb, hz, g0, g1⟩
        ·
          rw [h1, h2, h3] at hl
          have HL := Lib.hid hl
          clear hl
          refine plain_hid (fun W hW ops hops => ?_)
          have hb : Below w.heap.size w W := by rw [hW]; go_grown
          have hz : w.heap.size + 2 ≤ W.heap.size := by rw [hW]; simp
          have g0 : W.heap[w.heap.size]? = some (.cells #[.int .i64 ax, .int .i64 ay, .int .i64 bx, .int .i64 by'] 34) := by rw [hW]; exact heap_alloc_lt (heap_alloc_is (rfl))
          have g1 : W.heap[w.heap.size + 1]? = some (.cells #[.int .i64 cx, .int .i64 cy, .int .i64 dx, .int .i64 dy] 34) := by rw [hW]; exact heap_alloc_is (by simp)
          clear hW
          have o2 : (ops[2]?).bind (fun x => x.dst) = some 10 := by rw [hops]; rfl
          have o6 : (ops[6]?).bind (fun x => x.dst) = some 14 := by rw [hops]; rfl
          have o16 : (ops[16]?).bind (fun x => x.dst) = some 24 := by rw [hops]; rfl
          clear hops
          have f0 : ∀ x : Later W [], x.w.cell? ⟨w.heap.size, 0, none⟩ = some (.int .i64 ax) := fun x => cell_of_block (Later.at0 g0 x) rfl
          have f1 : ∀ x : Later W [], x.w.cell? ⟨w.heap.size, 1, none⟩ = some (.int .i64 ay) := fun x => cell_of_block (Later.at0 g0 x) rfl
          have f2 : ∀ x : Later W [], x.w.cell? ⟨w.heap.size, 2, none⟩ = some (.int .i64 bx) := fun x => cell_of_block (Later.at0 g0 x) rfl
          have f3 : ∀ x : Later W [], x.w.cell? ⟨w.heap.size, 3, none⟩ = some (.int .i64 by') := fun x => cell_of_block (Later.at0 g0 x) rfl
          have f4 : ∀ x : Later W [], x.w.cell? ⟨w.heap.size + 1, 0, none⟩ = some (.int .i64 cx) := fun x => cell_of_block (Later.at0 g1 x) rfl
          have f5 : ∀ x : Later W [], x.w.cell? ⟨w.heap.size + 1, 1, none⟩ = some (.int .i64 cy) := fun x => cell_of_block (Later.at0 g1 x) rfl
          have f6 : ∀ x : Later W [], x.w.cell? ⟨w.heap.size + 1, 2, none⟩ = some (.int .i64 dx) := fun x => cell_of_block (Later.at0 g1 x) rfl
          have f7 : ∀ x : Later W [], x.w.cell? ⟨w.heap.size + 1, 3, none⟩ = some (.int .i64 dy) := fun x => cell_of_block (Later.at0 g1 x) rfl
          repeat (refine walkT_step (fun K hK => ?_); go_simp; first | (refine hK _ _ ?_; clear hK K) | (refine ⟨_, fun x => refline_any _ _ _ _ _, ?_⟩; refine hK _ _ ?_; clear hK K) | (refine ⟨_, fun x => refcross_any _ _ _ _ _ _ _, ?_⟩; refine hK _ _ ?_; clear hK K))
          refine walkT_nil ?_
          intro w1 hc
          replace g0 := hc.at0 g0
          replace g1 := hc.at0 g1
          replace hb := hb.trans (hc.below.mono hb.size)
          replace hz := Nat.le_trans hz hc.kept.size
          clear hc o2 o6 o16 f0 f1 f2 f3 f4 f5 f6 f7 W
          go_wp2_with fail
          go_meet
          exact ⟨(congrArg Value.bool HL.out).symm, hb, hz, g0, g1⟩
  case rest =>
    obtain ⟨rfl, hb, hz, g0, g1⟩ := hcut
    have t1 := touch_sym ax ay bx by' cx cy dx dy
    have t2 := touch_rev ax ay bx by' cx cy dx dy
    have t3 := along_sym ax ay bx by' cx cy dx dy
    go_upto_region 2 with (fail)
    refine plain_hid (fun W hW ops hops => ?_)
    subst hW
    clear hops
    have f0 : ∀ x : Later W [], x.w.cell? ⟨w.heap.size, 0, none⟩ = some (.int .i64 ax) := fun x => cell_of_block (Later.at0 g0 x) rfl
    have f1 : ∀ x : Later W [], x.w.cell? ⟨w.heap.size, 1, none⟩ = some (.int .i64 ay) := fun x => cell_of_block (Later.at0 g0 x) rfl
    have f2 : ∀ x : Later W [], x.w.cell? ⟨w.heap.size, 2, none⟩ = some (.int .i64 bx) := fun x => cell_of_block (Later.at0 g0 x) rfl
    have f3 : ∀ x : Later W [], x.w.cell? ⟨w.heap.size, 3, none⟩ = some (.int .i64 by') := fun x => cell_of_block (Later.at0 g0 x) rfl
    have f4 : ∀ x : Later W [], x.w.cell? ⟨w.heap.size + 1, 0, none⟩ = some (.int .i64 cx) := fun x => cell_of_block (Later.at0 g1 x) rfl
    have f5 : ∀ x : Later W [], x.w.cell? ⟨w.heap.size + 1, 1, none⟩ = some (.int .i64 cy) := fun x => cell_of_block (Later.at0 g1 x) rfl
    have f6 : ∀ x : Later W [], x.w.cell? ⟨w.heap.size + 1, 2, none⟩ = some (.int .i64 dx) := fun x => cell_of_block (Later.at0 g1 x) rfl
    have f7 : ∀ x : Later W [], x.w.cell? ⟨w.heap.size + 1, 3, none⟩ = some (.int .i64 dy) := fun x => cell_of_block (Later.at0 g1 x) rfl
    repeat (refine walkT_step (fun K hK => ?_); go_simp; first | (refine hK _ _ ?_; clear hK K) | (refine ⟨_, fun x => reftouch_any _ _ _ _ _ _ _ _ _, ?_⟩; refine hK _ _ ?_; clear hK K))
    refine walkT_nil ?_
    intro w1 hc
    replace g0 := hc.at0 g0
    replace g1 := hc.at0 g1
    replace hb := hb.trans (hc.below.mono hb.size)
    replace hz := Nat.le_trans hz hc.kept.size
    clear hc f0 f1 f2 f3 f4 f5 f6 f7 W
    go_upto_region 3 with (fail)
    refine plain_hid (fun W hW ops hops => ?_)
    subst hW
    clear hops
    have f8 : ∀ x : Later W [], x.w.cell? ⟨w.heap.size, 0, none⟩ = some (.int .i64 ax) := fun x => cell_of_block (Later.at0 g0 x) rfl
    have f9 : ∀ x : Later W [], x.w.cell? ⟨w.heap.size, 1, none⟩ = some (.int .i64 ay) := fun x => cell_of_block (Later.at0 g0 x) rfl
    have f10 : ∀ x : Later W [], x.w.cell? ⟨w.heap.size, 2, none⟩ = some (.int .i64 bx) := fun x => cell_of_block (Later.at0 g0 x) rfl
    have f11 : ∀ x : Later W [], x.w.cell? ⟨w.heap.size, 3, none⟩ = some (.int .i64 by') := fun x => cell_of_block (Later.at0 g0 x) rfl
    have f12 : ∀ x : Later W [], x.w.cell? ⟨w.heap.size + 1, 0, none⟩ = some (.int .i64 cx) := fun x => cell_of_block (Later.at0 g1 x) rfl
    have f13 : ∀ x : Later W [], x.w.cell? ⟨w.heap.size + 1, 1, none⟩ = some (.int .i64 cy) := fun x => cell_of_block (Later.at0 g1 x) rfl
    have f14 : ∀ x : Later W [], x.w.cell? ⟨w.heap.size + 1, 2, none⟩ = some (.int .i64 dx) := fun x => cell_of_block (Later.at0 g1 x) rfl
    have f15 : ∀ x : Later W [], x.w.cell? ⟨w.heap.size + 1, 3, none⟩ = some (.int .i64 dy) := fun x => cell_of_block (Later.at0 g1 x) rfl
    repeat (refine walkT_step (fun K hK => ?_); go_simp; first | (refine hK _ _ ?_; clear hK K))
    refine walkT_step (fun K hK => ?_)
    go_simp
    refine ⟨_, fun _ => rfl, fun k7 hk7 nk7 => hK _ _ ?_⟩; clear hK K
    clear nk7
    refine walkT_fill (k := k7) (ob := #[.int .i64 0, .int .i64 0, .int .i64 0, .int .i64 0]) (t := 34) (v := .agg #[.int .i64 bx, .int .i64 by', .int .i64 ax, .int .i64 ay]) rfl rfl rfl rfl (Gh.set_same _ _ _) rfl (by kernel_rfl) rfl rfl ?_
    refine walkT_nil ?_
    intro w1 hc
    replace g0 := hc.at0 g0
    replace g1 := hc.at0 g1
    have g2 : w1.heap[k7]? = some (.cells #[.int .i64 bx, .int .i64 by', .int .i64 ax, .int .i64 ay] 34) := (hc.own (k7) _ true (Gh.set_same _ _ _)).2
    replace hb := hb.trans (hc.below.mono hb.size)
    replace hk7 := Nat.le_trans hz hk7
    replace hz := Nat.le_trans hz hc.kept.size
    clear hc f8 f9 f10 f11 f12 f13 f14 f15 W
    go_upto_region 4 with (fail)
    refine plain_hid (fun W hW ops hops => ?_)
    subst hW
    have o5 : (ops[5]?).bind (fun x => x.dst) = some 47 := by rw [hops]; rfl
    have o12 : (ops[12]?).bind (fun x => x.dst) = some 54 := by rw [hops]; rfl
    have o19 : (ops[19]?).bind (fun x => x.dst) = some 61 := by rw [hops]; rfl
    have o26 : (ops[26]?).bind (fun x => x.dst) = some 68 := by rw [hops]; rfl
    have o33 : (ops[33]?).bind (fun x => x.dst) = some 75 := by rw [hops]; rfl
    clear hops
    have f16 : ∀ x : Later W [], x.w.cell? ⟨w.heap.size, 0, none⟩ = some (.int .i64 ax) := fun x => cell_of_block (Later.at0 g0 x) rfl
    have f17 : ∀ x : Later W [], x.w.cell? ⟨w.heap.size, 1, none⟩ = some (.int .i64 ay) := fun x => cell_of_block (Later.at0 g0 x) rfl
    have f18 : ∀ x : Later W [], x.w.cell? ⟨w.heap.size, 2, none⟩ = some (.int .i64 bx) := fun x => cell_of_block (Later.at0 g0 x) rfl
    have f19 : ∀ x : Later W [], x.w.cell? ⟨w.heap.size, 3, none⟩ = some (.int .i64 by') := fun x => cell_of_block (Later.at0 g0 x) rfl
    have f20 : ∀ x : Later W [], x.w.cell? ⟨w.heap.size + 1, 0, none⟩ = some (.int .i64 cx) := fun x => cell_of_block (Later.at0 g1 x) rfl
    have f21 : ∀ x : Later W [], x.w.cell? ⟨w.heap.size + 1, 1, none⟩ = some (.int .i64 cy) := fun x => cell_of_block (Later.at0 g1 x) rfl
    have f22 : ∀ x : Later W [], x.w.cell? ⟨w.heap.size + 1, 2, none⟩ = some (.int .i64 dx) := fun x => cell_of_block (Later.at0 g1 x) rfl
    have f23 : ∀ x : Later W [], x.w.cell? ⟨w.heap.size + 1, 3, none⟩ = some (.int .i64 dy) := fun x => cell_of_block (Later.at0 g1 x) rfl
    have f24 : ∀ x : Later W [], x.w.cell? ⟨k7, 0, none⟩ = some (.int .i64 bx) := fun x => cell_of_block (Later.at0 g2 x) rfl
    have f25 : ∀ x : Later W [], x.w.cell? ⟨k7, 1, none⟩ = some (.int .i64 by') := fun x => cell_of_block (Later.at0 g2 x) rfl
    have f26 : ∀ x : Later W [], x.w.cell? ⟨k7, 2, none⟩ = some (.int .i64 ax) := fun x => cell_of_block (Later.at0 g2 x) rfl
    have f27 : ∀ x : Later W [], x.w.cell? ⟨k7, 3, none⟩ = some (.int .i64 ay) := fun x => cell_of_block (Later.at0 g2 x) rfl
    repeat (refine walkT_step (fun K hK => ?_); go_simp; first | (refine hK _ _ ?_; clear hK K) | (refine ⟨_, fun x => along_any _ _ _ _ _ _ _ _ _, ?_⟩; refine hK _ _ ?_; clear hK K) | (refine ⟨_, fun x => touch_any _ _ _ _ _ _ _ _ _, ?_⟩; refine hK _ _ ?_; clear hK K) | (refine ⟨_, fun x => awake8_any _, ?_⟩; refine hK _ _ ?_; clear hK K))
    refine walkT_nil ?_
    intro w2 hc
    replace g0 := hc.at0 g0
    replace g1 := hc.at0 g1
    replace g2 := hc.at0 g2
    replace hb := hb.trans (hc.below.mono hb.size)
    replace hz := Nat.le_trans hz hc.kept.size
    clear hc o5 o12 o19 o26 o33 f16 f17 f18 f19 f20 f21 f22 f23 f24 f25 f26 f27 W
    go_wp2
    go_ret
    exact ⟨rfl, hb⟩


namespace orientTouch
open Go.ChangeShapes Go.WideShapes Go.ChangeAt
theorem spec_is (H : Type) : ∀ ds : List (DataW H), ds.length = 2 → Rows.orientTouchSpec.fn H ds = { results := [.lit (.bool true)], args := ds }
  | [], h => by cases h
  | [_], h => by cases h
  | [_, _], _ => rfl
  | _ :: _ :: _ :: _, h => by simp at h

theorem args_of {args : Array Value} (h : args.size = 2) : ∃ v0 v1, args = #[v0, v1] := by
  refine ⟨args[0], args[1], ?_⟩
  apply Array.ext
  · simpa using h
  · intro i h1 h2
    match i, h1 with
    | 0, _ => rfl
    | 1, _ => rfl
    | m + 2, hm => exact absurd hm (by omega)

set_option maxRecDepth 100000 in
theorem over : Rows.orientTouchRow.holds Try.pinned (OpenSpec.ofChange Rows.orientTouchSpec) :=
  OpenClaim.holds_of_wide 8 Try.f8 rfl rfl rfl rfl rfl rfl rfl ⟨rfl, rfl, rfl, rfl, rfl⟩ rfl rfl rfl rfl rfl (by kernel_rfl) Try.func8 (by kernel_rfl)
    (of_decide_eq_true (by kernel_rfl)) (by unfold Func.isWrapper; first | (rw [if_pos (by decide +kernel)]; kernel_rfl) | (rw [if_neg (by decide +kernel)]; exact ⟨rfl, rfl⟩))
    (fun os started H enc _ => Kit.lifted (C := Try.checked) (tb := 4) (n := 2) (by kernel_rfl) (by kernel_rfl) (by kernel_rfl) Try.func8 rfl (by kernel_rfl) Try.underlying4 (by kernel_rfl)
      (by
        have e : Try.f8.params.toList = [34, 34] := by rw [Try.params8]
        rw [e]
        intro t ht
        simp only [List.mem_cons, List.not_mem_nil, or_false] at ht
        rcases ht with rfl | rfl <;> exact ⟨by kernel_rfl, of_decide_eq_true (by kernel_rfl)⟩)
      spec_is
      (by
        intro W base args H enc ds p hn hval hA hfz hz
        obtain ⟨v0, v1, rfl⟩ := args_of hn
        rw [Try.params8] at hval
        have k0 := hval 0 34 v0 rfl rfl
        have k1 := hval 1 34 v1 rfl rfl
        clear hval
        obtain ⟨ax, ay, bx, by', rfl, _⟩ := Kit.agg4_of Try.underlying34 cSeg tSeg uSeg k0
        obtain ⟨cx, cy, dx, dy, rfl, _⟩ := Kit.agg4_of Try.underlying34 cSeg tSeg uSeg k1
        exact touches_all ax ay bx by' cx cy dx dy W)
      os started H enc
      (ChangeSpec.witness6 (enc := enc) (C := Try.checked) false ⟨#[], #[.agg #[.int .i64 0, .int .i64 0, .int .i64 0, .int .i64 0], .agg #[.int .i64 0, .int .i64 0, .int .i64 0, .int .i64 0]], []⟩ 8 (by kernel_rfl) (by kernel_rfl) (by kernel_rfl) (by kernel_rfl)))
end orientTouch

/-- THE STATEMENT. -/
theorem orientTouch_holds : Rows.OrientTouchSaid := orientTouch.over
#print axioms orientTouch_holds

end Go.Proofs.Ytcpjgcpclekjkaa
