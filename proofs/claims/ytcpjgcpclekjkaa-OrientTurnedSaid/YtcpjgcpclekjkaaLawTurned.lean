/-
  PROVED: OrientTurned: lines that are turned about the origin touch just as they did, and points lie on the same sides, and on them. CONDITIONS: none: for every two lines and every number of quarters.
-/
import Derived.Test.YtcpjgcpclekjkaaOri3
import Derived.Test.YtcpjgcpclekjkaaTurnLaws
import Derived.Test.YtcpjgcpclekjkaaKit
import Derived.Lib.Hide
namespace Go.Proofs.Ytcpjgcpclekjkaa
open Go.RowKit Go.Proofs.Ytcpjgcpclekjkaa.Tame
set_option maxHeartbeats 400000


theorem tPt : Try.prog.cellTypes Try.prog.depth 23 = some [3, 3] := by kernel_rfl
theorem cPt : Try.prog.cellsOf 23 = 2 := by kernel_rfl
theorem uInt : ∀ u, u ∈ ([3, 3] : List TypeId) → Try.prog.underlying u = some (.int .i64) := by
  intro u hu; simp at hu; subst hu; exact Try.underlying3

theorem tSeg : Try.prog.cellTypes Try.prog.depth 34 = some [3, 3, 3, 3] := by kernel_rfl
theorem cSeg : Try.prog.cellsOf 34 = 4 := by kernel_rfl
theorem uSeg : ∀ u, u ∈ ([3, 3, 3, 3] : List TypeId) → Try.prog.underlying u = some (.int .i64) := by
  intro u hu; simp at hu; subst hu; exact Try.underlying3

theorem clos_any (ax ay q : Int) (b : Nat) (w : World) (hq0 : 0 ≤ q) (hq1 : q ≤ 255) (g : w.heap[b]? = some (.cells #[.int .u8 q] 5)) :
    Calls Try.prog 38 #[.agg #[.int .i64 ax, .int .i64 ay], .pointer (some ⟨b, 0, none⟩)] w fun e w' => e = .returned (.agg #[.int .i64 (turnX ax ay q), .int .i64 (turnY ax ay q)]) ∧ Below w.heap.size w w' := by
  have hblt := lt_of_some g
  go_enter Try.func38, Try.ntmps38
  go_upto_region 1 with (fail)
  refine plain_var (d := w.heap.size + 1) (heap_alloc_is (by simp)) (fun W hW ops hops => ?_)
  have hb : Below w.heap.size w W := by rw [hW]; go_grown
  have g0 : W.heap[w.heap.size]? = some (.cells #[.int .i64 ax, .int .i64 ay] 23) := by rw [hW]; exact heap_alloc_lt (heap_alloc_is rfl)
  have gb : W.heap[b]? = some (.cells #[.int .u8 q] 5) := by rw [hW]; exact heap_alloc_lt (heap_alloc_lt g)
  clear hW hops
  have f0 : ∀ x : Later W [w.heap.size + 1], x.w.cell? ⟨w.heap.size, 0, none⟩ = some (.int .i64 ax) := fun x => cell_of_block (Later.at g0 (not_mem1 (by omega)) x) rfl
  have f1 : ∀ x : Later W [w.heap.size + 1], x.w.cell? ⟨w.heap.size, 1, none⟩ = some (.int .i64 ay) := fun x => cell_of_block (Later.at g0 (not_mem1 (by omega)) x) rfl
  have f2 : ∀ x : Later W [w.heap.size + 1], x.w.cell? ⟨b, 0, none⟩ = some (.int .u8 q) := fun x => cell_of_block (Later.at gb (not_mem1 (by omega)) x) rfl
  have hc : IntKind.i64.wrap q = q := IntWalk.i64_in _ (by omega)
  repeat (refine walkT_step (fun K hK => ?_); go_simp; first | (refine hK _ _ ?_; clear hK K) | (refine ⟨_, fun x => refturned_any _ _ _ _, ?_⟩; refine hK _ _ ?_; clear hK K))
  refine walkT_fill (k := w.heap.size + 1) (ob := #[.int .i64 0, .int .i64 0]) (t := 23) (v := .agg #[.int .i64 (turnX ax ay q), .int .i64 (turnY ax ay q)]) rfl rfl rfl rfl (Gh.set_same _ _ _) rfl (by kernel_rfl) rfl rfl ?_
  refine walkT_nil ?_
  intro w1 hc
  have g1 : w1.heap[w.heap.size + 1]? = some (.cells #[.int .i64 (turnX ax ay q), .int .i64 (turnY ax ay q)] 23) := (hc.own (w.heap.size + 1) _ true (Gh.set_same _ _ _)).2
  replace hb := hb.trans (hc.kept.below hb.size (fun d hd => by rw [List.mem_singleton.1 hd]; omega))
  clear hc f0 f1 f2 g0 gb
  go_wp2
  have r0 : w1.cell? ⟨w.heap.size + 1, 0, none⟩ = some (.int .i64 (turnX ax ay q)) := cell_of_block g1 rfl
  have r1 : w1.cell? ⟨w.heap.size + 1, 1, none⟩ = some (.int .i64 (turnY ax ay q)) := cell_of_block g1 rfl
  exact bodyPost_ret (v := .agg #[.int .i64 (turnX ax ay q), .int .i64 (turnY ax ay q)]) (by simp [results, Try.results38, go_sem, r0, r1]) rfl ⟨rfl, hb⟩


set_option maxHeartbeats 4000000 in
theorem turned8_no (ax ay bx by' cx cy dx dy q : Int) (w : World) (hq0 : 0 ≤ q) (hq1 : q ≤ 255) (h : (lineB ax ay bx by' && lineB cx cy dx dy) = false) : Calls Try.prog 9 #[.agg #[.int .i64 ax, .int .i64 ay, .int .i64 bx, .int .i64 by'], .agg #[.int .i64 cx, .int .i64 cy, .int .i64 dx, .int .i64 dy], .int .u8 q] w fun e w' => e = .returned (.bool true) ∧ Below w.heap.size w w' := by
  cases h1 : lineB ax ay bx by' <;> cases h2 : lineB cx cy dx dy <;> rw [h1, h2] at h <;> first | (exfalso; revert h; decide) | skip
  all_goals
    clear h
    go_enter Try.func9, Try.ntmps9
    go_upto_region 2 with (fail)
    refine draws_hid (by kernel_rfl) (by kernel_rfl) (by kernel_rfl) (fun W hW ops hops => ?_)
    have hb : Below w.heap.size w W := by rw [hW]; go_grown
    have hz : w.heap.size + 3 ≤ W.heap.size := by rw [hW]; simp
    have g0 : W.heap[w.heap.size]? = some (.cells #[.int .i64 ax, .int .i64 ay, .int .i64 bx, .int .i64 by'] 34) := by rw [hW]; exact heap_alloc_lt (heap_alloc_lt (heap_alloc_is (rfl)))
    have g1 : W.heap[w.heap.size + 1]? = some (.cells #[.int .i64 cx, .int .i64 cy, .int .i64 dx, .int .i64 dy] 34) := by rw [hW]; exact heap_alloc_lt (heap_alloc_is (by simp))
    have g2 : W.heap[w.heap.size + 1 + 1]? = some (.cells #[.int .u8 q] 5) := by rw [hW]; exact heap_alloc_is (by simp)
    clear hW
    clear hops
    have f0 : ∀ x : Later W [], x.w.cell? ⟨w.heap.size, 0, none⟩ = some (.int .i64 ax) := fun x => cell_of_block (Later.at0 g0 x) rfl
    have f1 : ∀ x : Later W [], x.w.cell? ⟨w.heap.size, 1, none⟩ = some (.int .i64 ay) := fun x => cell_of_block (Later.at0 g0 x) rfl
    have f2 : ∀ x : Later W [], x.w.cell? ⟨w.heap.size, 2, none⟩ = some (.int .i64 bx) := fun x => cell_of_block (Later.at0 g0 x) rfl
    have f3 : ∀ x : Later W [], x.w.cell? ⟨w.heap.size, 3, none⟩ = some (.int .i64 by') := fun x => cell_of_block (Later.at0 g0 x) rfl
    have f4 : ∀ x : Later W [], x.w.cell? ⟨w.heap.size + 1, 0, none⟩ = some (.int .i64 cx) := fun x => cell_of_block (Later.at0 g1 x) rfl
    have f5 : ∀ x : Later W [], x.w.cell? ⟨w.heap.size + 1, 1, none⟩ = some (.int .i64 cy) := fun x => cell_of_block (Later.at0 g1 x) rfl
    have f6 : ∀ x : Later W [], x.w.cell? ⟨w.heap.size + 1, 2, none⟩ = some (.int .i64 dx) := fun x => cell_of_block (Later.at0 g1 x) rfl
    have f7 : ∀ x : Later W [], x.w.cell? ⟨w.heap.size + 1, 3, none⟩ = some (.int .i64 dy) := fun x => cell_of_block (Later.at0 g1 x) rfl
    have f8 : ∀ x : Later W [], x.w.cell? ⟨w.heap.size + 1 + 1, 0, none⟩ = some (.int .u8 q) := fun x => cell_of_block (Later.at0 g2 x) rfl
    repeat (refine walkT_step (fun K hK => ?_); go_simp; first | (refine hK _ _ ?_; clear hK K) | (refine ⟨_, fun x => clos_any _ _ _ _ _ (by assumption) (by assumption) (Later.at0 (by assumption) x), ?_⟩; refine hK _ _ ?_; clear hK K))
    refine walkT_step (fun K hK => ?_)
    go_simp
    refine ⟨_, fun _ => rfl, fun ku hku nku => hK _ _ ?_⟩; clear hK K
    refine walkT_step (fun K hK => ?_)
    go_simp
    refine ⟨_, fun _ => rfl, fun kv hkv nkv => hK _ _ ?_⟩; clear hK K
    have ne_kv_ku : kv ≠ ku := fun e => by subst e; simp [Gh.set] at nkv
    have ne_ku_kv : ku ≠ kv := Ne.symm ne_kv_ku
    clear nku nkv
    refine walkT_fill (k := ku) (ob := #[.int .i64 0, .int .i64 0, .int .i64 0, .int .i64 0]) (t := 34) (v := .agg #[.int .i64 (turnX ax ay q), .int .i64 (turnY ax ay q), .int .i64 (turnX bx by' q), .int .i64 (turnY bx by' q)]) rfl rfl rfl rfl ((Gh.set_ne _ _ ne_ku_kv).trans (Gh.set_same _ _ _)) rfl (by kernel_rfl) rfl rfl ?_
    refine walkT_fill (k := kv) (ob := #[.int .i64 0, .int .i64 0, .int .i64 0, .int .i64 0]) (t := 34) (v := .agg #[.int .i64 (turnX cx cy q), .int .i64 (turnY cx cy q), .int .i64 (turnX dx dy q), .int .i64 (turnY dx dy q)]) rfl rfl rfl rfl ((Gh.set_ne _ _ ne_kv_ku).trans (Gh.set_same _ _ _)) rfl (by kernel_rfl) rfl rfl ?_
    refine walkT_nil ?_
    intro w1 hc
    replace g0 := hc.at0 g0
    replace g1 := hc.at0 g1
    replace g2 := hc.at0 g2
    have g3 : w1.heap[ku]? = some (.cells #[.int .i64 (turnX ax ay q), .int .i64 (turnY ax ay q), .int .i64 (turnX bx by' q), .int .i64 (turnY bx by' q)] 34) := (hc.own (ku) _ true ((Gh.set_ne _ _ ne_ku_kv).trans (Gh.set_same _ _ _))).2
    have g4 : w1.heap[kv]? = some (.cells #[.int .i64 (turnX cx cy q), .int .i64 (turnY cx cy q), .int .i64 (turnX dx dy q), .int .i64 (turnY dx dy q)] 34) := (hc.own (kv) _ true (Gh.set_same _ _ _)).2
    replace hb := hb.trans (hc.below.mono hb.size)
    replace hku := Nat.le_trans hz hku
    replace hkv := Nat.le_trans hz hkv
    replace hz := Nat.le_trans hz hc.kept.size
    clear hc f0 f1 f2 f3 f4 f5 f6 f7 f8 W
    go_upto_region 3 with (fail)
    refine plain_hid (fun W hW ops hops => ?_)
    subst hW
    have o3 : (ops[3]?).bind (fun x => x.dst) = some 32 := by rw [hops]; rfl
    clear hops
    have f9 : ∀ x : Later W [], x.w.cell? ⟨w.heap.size, 0, none⟩ = some (.int .i64 ax) := fun x => cell_of_block (Later.at0 g0 x) rfl
    have f10 : ∀ x : Later W [], x.w.cell? ⟨w.heap.size, 1, none⟩ = some (.int .i64 ay) := fun x => cell_of_block (Later.at0 g0 x) rfl
    have f11 : ∀ x : Later W [], x.w.cell? ⟨w.heap.size, 2, none⟩ = some (.int .i64 bx) := fun x => cell_of_block (Later.at0 g0 x) rfl
    have f12 : ∀ x : Later W [], x.w.cell? ⟨w.heap.size, 3, none⟩ = some (.int .i64 by') := fun x => cell_of_block (Later.at0 g0 x) rfl
    have f13 : ∀ x : Later W [], x.w.cell? ⟨w.heap.size + 1, 0, none⟩ = some (.int .i64 cx) := fun x => cell_of_block (Later.at0 g1 x) rfl
    have f14 : ∀ x : Later W [], x.w.cell? ⟨w.heap.size + 1, 1, none⟩ = some (.int .i64 cy) := fun x => cell_of_block (Later.at0 g1 x) rfl
    have f15 : ∀ x : Later W [], x.w.cell? ⟨w.heap.size + 1, 2, none⟩ = some (.int .i64 dx) := fun x => cell_of_block (Later.at0 g1 x) rfl
    have f16 : ∀ x : Later W [], x.w.cell? ⟨w.heap.size + 1, 3, none⟩ = some (.int .i64 dy) := fun x => cell_of_block (Later.at0 g1 x) rfl
    have f17 : ∀ x : Later W [], x.w.cell? ⟨w.heap.size + 1 + 1, 0, none⟩ = some (.int .u8 q) := fun x => cell_of_block (Later.at0 g2 x) rfl
    have f18 : ∀ x : Later W [], x.w.cell? ⟨ku, 0, none⟩ = some (.int .i64 (turnX ax ay q)) := fun x => cell_of_block (Later.at0 g3 x) rfl
    have f19 : ∀ x : Later W [], x.w.cell? ⟨ku, 1, none⟩ = some (.int .i64 (turnY ax ay q)) := fun x => cell_of_block (Later.at0 g3 x) rfl
    have f20 : ∀ x : Later W [], x.w.cell? ⟨ku, 2, none⟩ = some (.int .i64 (turnX bx by' q)) := fun x => cell_of_block (Later.at0 g3 x) rfl
    have f21 : ∀ x : Later W [], x.w.cell? ⟨ku, 3, none⟩ = some (.int .i64 (turnY bx by' q)) := fun x => cell_of_block (Later.at0 g3 x) rfl
    have f22 : ∀ x : Later W [], x.w.cell? ⟨kv, 0, none⟩ = some (.int .i64 (turnX cx cy q)) := fun x => cell_of_block (Later.at0 g4 x) rfl
    have f23 : ∀ x : Later W [], x.w.cell? ⟨kv, 1, none⟩ = some (.int .i64 (turnY cx cy q)) := fun x => cell_of_block (Later.at0 g4 x) rfl
    have f24 : ∀ x : Later W [], x.w.cell? ⟨kv, 2, none⟩ = some (.int .i64 (turnX dx dy q)) := fun x => cell_of_block (Later.at0 g4 x) rfl
    have f25 : ∀ x : Later W [], x.w.cell? ⟨kv, 3, none⟩ = some (.int .i64 (turnY dx dy q)) := fun x => cell_of_block (Later.at0 g4 x) rfl
    repeat (refine walkT_step (fun K hK => ?_); go_simp; first | (refine hK _ _ ?_; clear hK K) | (refine ⟨_, fun x => refline_any _ _ _ _ _, ?_⟩; refine hK _ _ ?_; clear hK K))
    refine walkT_nil ?_
    intro w1 hc
    replace g0 := hc.at0 g0
    replace g1 := hc.at0 g1
    replace g2 := hc.at0 g2
    replace g3 := hc.at0 g3
    replace g4 := hc.at0 g4
    replace hb := hb.trans (hc.below.mono hb.size)
    replace hz := Nat.le_trans hz hc.kept.size
    clear hc o3 f9 f10 f11 f12 f13 f14 f15 f16 f17 f18 f19 f20 f21 f22 f23 f24 f25 W
    go_upto_region 4 with (fail)
    refine plain_hid (fun W hW ops hops => ?_)
    subst hW
    clear hops
    have f26 : ∀ x : Later W [], x.w.cell? ⟨w.heap.size, 0, none⟩ = some (.int .i64 ax) := fun x => cell_of_block (Later.at0 g0 x) rfl
    have f27 : ∀ x : Later W [], x.w.cell? ⟨w.heap.size, 1, none⟩ = some (.int .i64 ay) := fun x => cell_of_block (Later.at0 g0 x) rfl
    have f28 : ∀ x : Later W [], x.w.cell? ⟨w.heap.size, 2, none⟩ = some (.int .i64 bx) := fun x => cell_of_block (Later.at0 g0 x) rfl
    have f29 : ∀ x : Later W [], x.w.cell? ⟨w.heap.size, 3, none⟩ = some (.int .i64 by') := fun x => cell_of_block (Later.at0 g0 x) rfl
    have f30 : ∀ x : Later W [], x.w.cell? ⟨w.heap.size + 1, 0, none⟩ = some (.int .i64 cx) := fun x => cell_of_block (Later.at0 g1 x) rfl
    have f31 : ∀ x : Later W [], x.w.cell? ⟨w.heap.size + 1, 1, none⟩ = some (.int .i64 cy) := fun x => cell_of_block (Later.at0 g1 x) rfl
    have f32 : ∀ x : Later W [], x.w.cell? ⟨w.heap.size + 1, 2, none⟩ = some (.int .i64 dx) := fun x => cell_of_block (Later.at0 g1 x) rfl
    have f33 : ∀ x : Later W [], x.w.cell? ⟨w.heap.size + 1, 3, none⟩ = some (.int .i64 dy) := fun x => cell_of_block (Later.at0 g1 x) rfl
    have f34 : ∀ x : Later W [], x.w.cell? ⟨w.heap.size + 1 + 1, 0, none⟩ = some (.int .u8 q) := fun x => cell_of_block (Later.at0 g2 x) rfl
    have f35 : ∀ x : Later W [], x.w.cell? ⟨ku, 0, none⟩ = some (.int .i64 (turnX ax ay q)) := fun x => cell_of_block (Later.at0 g3 x) rfl
    have f36 : ∀ x : Later W [], x.w.cell? ⟨ku, 1, none⟩ = some (.int .i64 (turnY ax ay q)) := fun x => cell_of_block (Later.at0 g3 x) rfl
    have f37 : ∀ x : Later W [], x.w.cell? ⟨ku, 2, none⟩ = some (.int .i64 (turnX bx by' q)) := fun x => cell_of_block (Later.at0 g3 x) rfl
    have f38 : ∀ x : Later W [], x.w.cell? ⟨ku, 3, none⟩ = some (.int .i64 (turnY bx by' q)) := fun x => cell_of_block (Later.at0 g3 x) rfl
    have f39 : ∀ x : Later W [], x.w.cell? ⟨kv, 0, none⟩ = some (.int .i64 (turnX cx cy q)) := fun x => cell_of_block (Later.at0 g4 x) rfl
    have f40 : ∀ x : Later W [], x.w.cell? ⟨kv, 1, none⟩ = some (.int .i64 (turnY cx cy q)) := fun x => cell_of_block (Later.at0 g4 x) rfl
    have f41 : ∀ x : Later W [], x.w.cell? ⟨kv, 2, none⟩ = some (.int .i64 (turnX dx dy q)) := fun x => cell_of_block (Later.at0 g4 x) rfl
    have f42 : ∀ x : Later W [], x.w.cell? ⟨kv, 3, none⟩ = some (.int .i64 (turnY dx dy q)) := fun x => cell_of_block (Later.at0 g4 x) rfl
    repeat (refine walkT_step (fun K hK => ?_); go_simp; first | (refine hK _ _ ?_; clear hK K) | (refine ⟨_, fun x => awake8_any _, ?_⟩; refine hK _ _ ?_; clear hK K))
    refine walkT_nil ?_
    intro w1 hc
    replace g0 := hc.at0 g0
    replace g1 := hc.at0 g1
    replace g2 := hc.at0 g2
    replace g3 := hc.at0 g3
    replace g4 := hc.at0 g4
    replace hb := hb.trans (hc.below.mono hb.size)
    replace hz := Nat.le_trans hz hc.kept.size
    clear hc f26 f27 f28 f29 f30 f31 f32 f33 f34 f35 f36 f37 f38 f39 f40 f41 f42 W
    go_wp2
    go_ret
    exact ⟨rfl, hb⟩


set_option maxRecDepth 100000 in
set_option maxHeartbeats 4000000 in
theorem turned8_yes (ax ay bx by' cx cy dx dy q : Int) (w : World) (hq0 : 0 ≤ q) (hq1 : q ≤ 255) (h1 : lineB ax ay bx by' = true) (h2 : lineB cx cy dx dy = true) : Calls Try.prog 9 #[.agg #[.int .i64 ax, .int .i64 ay, .int .i64 bx, .int .i64 by'], .agg #[.int .i64 cx, .int .i64 cy, .int .i64 dx, .int .i64 dy], .int .u8 q] w fun e w' => e = .returned (.bool true) ∧ Below w.heap.size w w' := by
  go_enter Try.func9, Try.ntmps9
  go_upto_region 2 with (fail)
  refine draws_hid (by kernel_rfl) (by kernel_rfl) (by kernel_rfl) (fun W hW ops hops => ?_)
  have hb : Below w.heap.size w W := by rw [hW]; go_grown
  have hz : w.heap.size + 3 ≤ W.heap.size := by rw [hW]; simp
  have g0 : W.heap[w.heap.size]? = some (.cells #[.int .i64 ax, .int .i64 ay, .int .i64 bx, .int .i64 by'] 34) := by rw [hW]; exact heap_alloc_lt (heap_alloc_lt (heap_alloc_is (rfl)))
  have g1 : W.heap[w.heap.size + 1]? = some (.cells #[.int .i64 cx, .int .i64 cy, .int .i64 dx, .int .i64 dy] 34) := by rw [hW]; exact heap_alloc_lt (heap_alloc_is (by simp))
  have g2 : W.heap[w.heap.size + 1 + 1]? = some (.cells #[.int .u8 q] 5) := by rw [hW]; exact heap_alloc_is (by simp)
  clear hW
  clear hops
  have f0 : ∀ x : Later W [], x.w.cell? ⟨w.heap.size, 0, none⟩ = some (.int .i64 ax) := fun x => cell_of_block (Later.at0 g0 x) rfl
  have f1 : ∀ x : Later W [], x.w.cell? ⟨w.heap.size, 1, none⟩ = some (.int .i64 ay) := fun x => cell_of_block (Later.at0 g0 x) rfl
  have f2 : ∀ x : Later W [], x.w.cell? ⟨w.heap.size, 2, none⟩ = some (.int .i64 bx) := fun x => cell_of_block (Later.at0 g0 x) rfl
  have f3 : ∀ x : Later W [], x.w.cell? ⟨w.heap.size, 3, none⟩ = some (.int .i64 by') := fun x => cell_of_block (Later.at0 g0 x) rfl
  have f4 : ∀ x : Later W [], x.w.cell? ⟨w.heap.size + 1, 0, none⟩ = some (.int .i64 cx) := fun x => cell_of_block (Later.at0 g1 x) rfl
  have f5 : ∀ x : Later W [], x.w.cell? ⟨w.heap.size + 1, 1, none⟩ = some (.int .i64 cy) := fun x => cell_of_block (Later.at0 g1 x) rfl
  have f6 : ∀ x : Later W [], x.w.cell? ⟨w.heap.size + 1, 2, none⟩ = some (.int .i64 dx) := fun x => cell_of_block (Later.at0 g1 x) rfl
  have f7 : ∀ x : Later W [], x.w.cell? ⟨w.heap.size + 1, 3, none⟩ = some (.int .i64 dy) := fun x => cell_of_block (Later.at0 g1 x) rfl
  have f8 : ∀ x : Later W [], x.w.cell? ⟨w.heap.size + 1 + 1, 0, none⟩ = some (.int .u8 q) := fun x => cell_of_block (Later.at0 g2 x) rfl
  repeat (refine walkT_step (fun K hK => ?_); go_simp; first | (refine hK _ _ ?_; clear hK K) | (refine ⟨_, fun x => clos_any _ _ _ _ _ (by assumption) (by assumption) (Later.at0 (by assumption) x), ?_⟩; refine hK _ _ ?_; clear hK K))
  refine walkT_step (fun K hK => ?_)
  go_simp
  refine ⟨_, fun _ => rfl, fun ku hku nku => hK _ _ ?_⟩; clear hK K
  refine walkT_step (fun K hK => ?_)
  go_simp
  refine ⟨_, fun _ => rfl, fun kv hkv nkv => hK _ _ ?_⟩; clear hK K
  have ne_kv_ku : kv ≠ ku := fun e => by subst e; simp [Gh.set] at nkv
  have ne_ku_kv : ku ≠ kv := Ne.symm ne_kv_ku
  clear nku nkv
  refine walkT_fill (k := ku) (ob := #[.int .i64 0, .int .i64 0, .int .i64 0, .int .i64 0]) (t := 34) (v := .agg #[.int .i64 (turnX ax ay q), .int .i64 (turnY ax ay q), .int .i64 (turnX bx by' q), .int .i64 (turnY bx by' q)]) rfl rfl rfl rfl ((Gh.set_ne _ _ ne_ku_kv).trans (Gh.set_same _ _ _)) rfl (by kernel_rfl) rfl rfl ?_
  refine walkT_fill (k := kv) (ob := #[.int .i64 0, .int .i64 0, .int .i64 0, .int .i64 0]) (t := 34) (v := .agg #[.int .i64 (turnX cx cy q), .int .i64 (turnY cx cy q), .int .i64 (turnX dx dy q), .int .i64 (turnY dx dy q)]) rfl rfl rfl rfl ((Gh.set_ne _ _ ne_kv_ku).trans (Gh.set_same _ _ _)) rfl (by kernel_rfl) rfl rfl ?_
  refine walkT_nil ?_
  intro w1 hc
  replace g0 := hc.at0 g0
  replace g1 := hc.at0 g1
  replace g2 := hc.at0 g2
  have g3 : w1.heap[ku]? = some (.cells #[.int .i64 (turnX ax ay q), .int .i64 (turnY ax ay q), .int .i64 (turnX bx by' q), .int .i64 (turnY bx by' q)] 34) := (hc.own (ku) _ true ((Gh.set_ne _ _ ne_ku_kv).trans (Gh.set_same _ _ _))).2
  have g4 : w1.heap[kv]? = some (.cells #[.int .i64 (turnX cx cy q), .int .i64 (turnY cx cy q), .int .i64 (turnX dx dy q), .int .i64 (turnY dx dy q)] 34) := (hc.own (kv) _ true (Gh.set_same _ _ _)).2
  replace hb := hb.trans (hc.below.mono hb.size)
  replace hku := Nat.le_trans hz hku
  replace hkv := Nat.le_trans hz hkv
  replace hz := Nat.le_trans hz hc.kept.size
  clear hc f0 f1 f2 f3 f4 f5 f6 f7 f8 W
  go_upto_region 3 with (fail)
  refine plain_hid (fun W hW ops hops => ?_)
  subst hW
  have o3 : (ops[3]?).bind (fun x => x.dst) = some 32 := by rw [hops]; rfl
  clear hops
  have f9 : ∀ x : Later W [], x.w.cell? ⟨w.heap.size, 0, none⟩ = some (.int .i64 ax) := fun x => cell_of_block (Later.at0 g0 x) rfl
  have f10 : ∀ x : Later W [], x.w.cell? ⟨w.heap.size, 1, none⟩ = some (.int .i64 ay) := fun x => cell_of_block (Later.at0 g0 x) rfl
  have f11 : ∀ x : Later W [], x.w.cell? ⟨w.heap.size, 2, none⟩ = some (.int .i64 bx) := fun x => cell_of_block (Later.at0 g0 x) rfl
  have f12 : ∀ x : Later W [], x.w.cell? ⟨w.heap.size, 3, none⟩ = some (.int .i64 by') := fun x => cell_of_block (Later.at0 g0 x) rfl
  have f13 : ∀ x : Later W [], x.w.cell? ⟨w.heap.size + 1, 0, none⟩ = some (.int .i64 cx) := fun x => cell_of_block (Later.at0 g1 x) rfl
  have f14 : ∀ x : Later W [], x.w.cell? ⟨w.heap.size + 1, 1, none⟩ = some (.int .i64 cy) := fun x => cell_of_block (Later.at0 g1 x) rfl
  have f15 : ∀ x : Later W [], x.w.cell? ⟨w.heap.size + 1, 2, none⟩ = some (.int .i64 dx) := fun x => cell_of_block (Later.at0 g1 x) rfl
  have f16 : ∀ x : Later W [], x.w.cell? ⟨w.heap.size + 1, 3, none⟩ = some (.int .i64 dy) := fun x => cell_of_block (Later.at0 g1 x) rfl
  have f17 : ∀ x : Later W [], x.w.cell? ⟨w.heap.size + 1 + 1, 0, none⟩ = some (.int .u8 q) := fun x => cell_of_block (Later.at0 g2 x) rfl
  have f18 : ∀ x : Later W [], x.w.cell? ⟨ku, 0, none⟩ = some (.int .i64 (turnX ax ay q)) := fun x => cell_of_block (Later.at0 g3 x) rfl
  have f19 : ∀ x : Later W [], x.w.cell? ⟨ku, 1, none⟩ = some (.int .i64 (turnY ax ay q)) := fun x => cell_of_block (Later.at0 g3 x) rfl
  have f20 : ∀ x : Later W [], x.w.cell? ⟨ku, 2, none⟩ = some (.int .i64 (turnX bx by' q)) := fun x => cell_of_block (Later.at0 g3 x) rfl
  have f21 : ∀ x : Later W [], x.w.cell? ⟨ku, 3, none⟩ = some (.int .i64 (turnY bx by' q)) := fun x => cell_of_block (Later.at0 g3 x) rfl
  have f22 : ∀ x : Later W [], x.w.cell? ⟨kv, 0, none⟩ = some (.int .i64 (turnX cx cy q)) := fun x => cell_of_block (Later.at0 g4 x) rfl
  have f23 : ∀ x : Later W [], x.w.cell? ⟨kv, 1, none⟩ = some (.int .i64 (turnY cx cy q)) := fun x => cell_of_block (Later.at0 g4 x) rfl
  have f24 : ∀ x : Later W [], x.w.cell? ⟨kv, 2, none⟩ = some (.int .i64 (turnX dx dy q)) := fun x => cell_of_block (Later.at0 g4 x) rfl
  have f25 : ∀ x : Later W [], x.w.cell? ⟨kv, 3, none⟩ = some (.int .i64 (turnY dx dy q)) := fun x => cell_of_block (Later.at0 g4 x) rfl
  repeat (refine walkT_step (fun K hK => ?_); go_simp; first | (refine hK _ _ ?_; clear hK K) | (refine ⟨_, fun x => refline_any _ _ _ _ _, ?_⟩; refine hK _ _ ?_; clear hK K))
  refine walkT_nil ?_
  intro w1 hc
  replace g0 := hc.at0 g0
  replace g1 := hc.at0 g1
  replace g2 := hc.at0 g2
  replace g3 := hc.at0 g3
  replace g4 := hc.at0 g4
  replace hb := hb.trans (hc.below.mono hb.size)
  replace hz := Nat.le_trans hz hc.kept.size
  clear hc o3 f9 f10 f11 f12 f13 f14 f15 f16 f17 f18 f19 f20 f21 f22 f23 f24 f25 W
  obtain ⟨m1, m2, _⟩ := line_may h1
  obtain ⟨m3, m4, _⟩ := line_may h2
  have t1 := touch_t q m1 m2 m3 m4
  have t2 := along_t q m1 m2 m3 m4
  have t3 := cross_t q m1 m2 m3
  have t4 := on_t q m1 m2 m4
  have t5 := order_t q m1 m2 m3 m4
  clear m1 m2 m3 m4
  go_upto_region 5 with (fail)
  refine draws_hid (by kernel_rfl) (by kernel_rfl) (by kernel_rfl) (fun W hW ops hops => ?_)
  subst hW
  have o7 : (ops[7]?).bind (fun x => x.dst) = some 45 := by rw [hops]; rfl
  have o16 : (ops[16]?).bind (fun x => x.dst) = some 54 := by rw [hops]; rfl
  have o33 : (ops[33]?).bind (fun x => x.dst) = some 71 := by rw [hops]; rfl
  have o44 : (ops[44]?).bind (fun x => x.dst) = some 82 := by rw [hops]; rfl
  have o59 : (ops[59]?).bind (fun x => x.dst) = some 97 := by rw [hops]; rfl
  clear hops
  have f26 : ∀ x : Later W [], x.w.cell? ⟨w.heap.size, 0, none⟩ = some (.int .i64 ax) := fun x => cell_of_block (Later.at0 g0 x) rfl
  have f27 : ∀ x : Later W [], x.w.cell? ⟨w.heap.size, 1, none⟩ = some (.int .i64 ay) := fun x => cell_of_block (Later.at0 g0 x) rfl
  have f28 : ∀ x : Later W [], x.w.cell? ⟨w.heap.size, 2, none⟩ = some (.int .i64 bx) := fun x => cell_of_block (Later.at0 g0 x) rfl
  have f29 : ∀ x : Later W [], x.w.cell? ⟨w.heap.size, 3, none⟩ = some (.int .i64 by') := fun x => cell_of_block (Later.at0 g0 x) rfl
  have f30 : ∀ x : Later W [], x.w.cell? ⟨w.heap.size + 1, 0, none⟩ = some (.int .i64 cx) := fun x => cell_of_block (Later.at0 g1 x) rfl
  have f31 : ∀ x : Later W [], x.w.cell? ⟨w.heap.size + 1, 1, none⟩ = some (.int .i64 cy) := fun x => cell_of_block (Later.at0 g1 x) rfl
  have f32 : ∀ x : Later W [], x.w.cell? ⟨w.heap.size + 1, 2, none⟩ = some (.int .i64 dx) := fun x => cell_of_block (Later.at0 g1 x) rfl
  have f33 : ∀ x : Later W [], x.w.cell? ⟨w.heap.size + 1, 3, none⟩ = some (.int .i64 dy) := fun x => cell_of_block (Later.at0 g1 x) rfl
  have f34 : ∀ x : Later W [], x.w.cell? ⟨w.heap.size + 1 + 1, 0, none⟩ = some (.int .u8 q) := fun x => cell_of_block (Later.at0 g2 x) rfl
  have f35 : ∀ x : Later W [], x.w.cell? ⟨ku, 0, none⟩ = some (.int .i64 (turnX ax ay q)) := fun x => cell_of_block (Later.at0 g3 x) rfl
  have f36 : ∀ x : Later W [], x.w.cell? ⟨ku, 1, none⟩ = some (.int .i64 (turnY ax ay q)) := fun x => cell_of_block (Later.at0 g3 x) rfl
  have f37 : ∀ x : Later W [], x.w.cell? ⟨ku, 2, none⟩ = some (.int .i64 (turnX bx by' q)) := fun x => cell_of_block (Later.at0 g3 x) rfl
  have f38 : ∀ x : Later W [], x.w.cell? ⟨ku, 3, none⟩ = some (.int .i64 (turnY bx by' q)) := fun x => cell_of_block (Later.at0 g3 x) rfl
  have f39 : ∀ x : Later W [], x.w.cell? ⟨kv, 0, none⟩ = some (.int .i64 (turnX cx cy q)) := fun x => cell_of_block (Later.at0 g4 x) rfl
  have f40 : ∀ x : Later W [], x.w.cell? ⟨kv, 1, none⟩ = some (.int .i64 (turnY cx cy q)) := fun x => cell_of_block (Later.at0 g4 x) rfl
  have f41 : ∀ x : Later W [], x.w.cell? ⟨kv, 2, none⟩ = some (.int .i64 (turnX dx dy q)) := fun x => cell_of_block (Later.at0 g4 x) rfl
  have f42 : ∀ x : Later W [], x.w.cell? ⟨kv, 3, none⟩ = some (.int .i64 (turnY dx dy q)) := fun x => cell_of_block (Later.at0 g4 x) rfl
  repeat (refine walkT_step (fun K hK => ?_); go_simp; first | (refine hK _ _ ?_; clear hK K) | (refine ⟨_, fun x => touch_any _ _ _ _ _ _ _ _ _, ?_⟩; refine hK _ _ ?_; clear hK K) | (refine ⟨_, fun x => along_any _ _ _ _ _ _ _ _ _, ?_⟩; refine hK _ _ ?_; clear hK K) | (refine ⟨_, fun x => side_any _ _ _ _ _ _ _, ?_⟩; refine hK _ _ ?_; clear hK K) | (refine ⟨_, fun x => on_any _ _ _ _ _ _ _, ?_⟩; refine hK _ _ ?_; clear hK K) | (refine ⟨_, fun x => order_any _ _ _ _ _ _ _ _ _, ?_⟩; refine hK _ _ ?_; clear hK K) | (refine ⟨_, fun x => awake8_any _, ?_⟩; refine hK _ _ ?_; clear hK K))
  refine walkT_nil ?_
  intro w2 hc
  replace g0 := hc.at0 g0
  replace g1 := hc.at0 g1
  replace g2 := hc.at0 g2
  replace g3 := hc.at0 g3
  replace g4 := hc.at0 g4
  replace hb := hb.trans (hc.below.mono hb.size)
  replace hz := Nat.le_trans hz hc.kept.size
  clear hc o7 o16 o33 o44 o59 f26 f27 f28 f29 f30 f31 f32 f33 f34 f35 f36 f37 f38 f39 f40 f41 f42 W
  go_wp2
  go_ret
  exact ⟨rfl, hb⟩

theorem turned8_all (ax ay bx by' cx cy dx dy q : Int) (w : World) (hq0 : 0 ≤ q) (hq1 : q ≤ 255) : Calls Try.prog 9 #[.agg #[.int .i64 ax, .int .i64 ay, .int .i64 bx, .int .i64 by'], .agg #[.int .i64 cx, .int .i64 cy, .int .i64 dx, .int .i64 dy], .int .u8 q] w fun e w' => e = .returned (.bool true) ∧ Below w.heap.size w w' := by
  cases h : (lineB ax ay bx by' && lineB cx cy dx dy)
  · exact turned8_no ax ay bx by' cx cy dx dy q w hq0 hq1 h
  · rw [Bool.and_eq_true] at h
    exact turned8_yes ax ay bx by' cx cy dx dy q w hq0 hq1 h.1 h.2


namespace orientTurned
open Go.ChangeShapes Go.WideShapes Go.ChangeAt
theorem spec_is (H : Type) : ∀ ds : List (DataW H), ds.length = 3 → Rows.orientTurnedSpec.fn H ds = { results := [.lit (.bool true)], args := ds }
  | [], h => by cases h
  | [_], h => by cases h
  | [_, _], h => by cases h
  | [_, _, _], _ => rfl
  | _ :: _ :: _ :: _ :: _, h => by simp at h

theorem args_of {args : Array Value} (h : args.size = 3) : ∃ v0 v1 v2, args = #[v0, v1, v2] := by
  refine ⟨args[0], args[1], args[2], ?_⟩
  apply Array.ext
  · simpa using h
  · intro i h1 h2
    match i, h1 with
    | 0, _ => rfl
    | 1, _ => rfl
    | 2, _ => rfl
    | m + 3, hm => exact absurd hm (by omega)

set_option maxRecDepth 100000 in
theorem over : Rows.orientTurnedRow.holds Try.pinned (OpenSpec.ofChange Rows.orientTurnedSpec) :=
  OpenClaim.holds_of_wide 9 Try.f9 rfl rfl rfl rfl rfl rfl rfl ⟨rfl, rfl, rfl, rfl, rfl⟩ rfl rfl rfl rfl rfl (by kernel_rfl) Try.func9 (by kernel_rfl)
    (of_decide_eq_true (by kernel_rfl)) (by unfold Func.isWrapper; first | (rw [if_pos (by decide +kernel)]; kernel_rfl) | (rw [if_neg (by decide +kernel)]; exact ⟨rfl, rfl⟩))
    (fun os started H enc _ => Kit.lifted (C := Try.checked) (tb := 4) (n := 3) (by kernel_rfl) (by kernel_rfl) (by kernel_rfl) Try.func9 rfl (by kernel_rfl) Try.underlying4 (by kernel_rfl)
      (by
        have e : Try.f9.params.toList = [34, 34, 5] := by rw [Try.params9]
        rw [e]
        intro t ht
        simp only [List.mem_cons, List.not_mem_nil, or_false] at ht
        rcases ht with rfl | rfl | rfl <;> exact ⟨by kernel_rfl, of_decide_eq_true (by kernel_rfl)⟩)
      spec_is
      (by
        intro W base args H enc ds p hn hval hA hfz hz
        obtain ⟨v0, v1, v2, rfl⟩ := args_of hn
        rw [Try.params9] at hval
        have k0 := hval 0 34 v0 rfl rfl
        have k1 := hval 1 34 v1 rfl rfl
        have k2 := hval 2 5 v2 rfl rfl
        clear hval
        obtain ⟨ax, ay, bx, by', rfl, _⟩ := Kit.agg4_of Try.underlying34 cSeg tSeg uSeg k0
        obtain ⟨cx, cy, dx, dy, rfl, _⟩ := Kit.agg4_of Try.underlying34 cSeg tSeg uSeg k1
        obtain ⟨q, rfl, hq⟩ := Kit.int_of Try.underlying5 k2
        have hq2 : 0 ≤ q ∧ q ≤ 255 := by simpa [IntKind.has, IntKind.min, IntKind.max, IntKind.bits, IntKind.signed] using hq
        exact turned8_all ax ay bx by' cx cy dx dy q W hq2.1 hq2.2)
      os started H enc
      (ChangeSpec.witness6 (enc := enc) (C := Try.checked) false ⟨#[], #[.agg #[.int .i64 0, .int .i64 0, .int .i64 0, .int .i64 0], .agg #[.int .i64 0, .int .i64 0, .int .i64 0, .int .i64 0], .int .u8 0], []⟩ 8 (by kernel_rfl) (by kernel_rfl) (by kernel_rfl) (by kernel_rfl)))
end orientTurned

/-- THE STATEMENT. -/
theorem orientTurned_holds : Rows.OrientTurnedSaid := orientTurned.over
#print axioms orientTurned_holds

end Go.Proofs.Ytcpjgcpclekjkaa
