/-
  WALKS OVER TILES, 2: in which column a part of a point lies, the tile of a point, a tile's corners. CONDITIONS: stated.
-/
import Derived.Test.YtnpilmjpinmgfaaTile1
import Derived.Lib.Hide
namespace Go.Proofs.Ytnpilmjpinmgfaa
open Go.RowKit Go.Proofs.Ytnpilmjpinmgfaa.Tame
set_option maxHeartbeats 400000

/-- In which column of M, each S wide? -/
def colM (n M S : Int) : Int := if M - 1 < (n + 536870912) / S then M - 1 else (n + 536870912) / S
theorem column_at (n z S M : Int) (w : World) (hn : okI n) (hz0 : 0 ≤ z) (hz1 : z ≤ 29) (hM : wrap64 (2 ^ z.toNat) = M) (hS : (2 : Int) ^ (30 - z).toNat = S) (hM0 : 0 < M) (hM1 : M ≤ 536870912) :
    Calls Try.prog 28 #[.int .i64 n, .int .i64 z] w fun e w' => e = .returned (.int .i64 (colM n M S)) ∧ Below w.heap.size w w' := by
  obtain ⟨n0, n1⟩ := hn
  have hM2 : IntKind.i64.wrap (2 ^ z.toNat) = M := (twrap_is _).trans hM
  have e1 : IntKind.i64.wrap (n + 536870912) = n + 536870912 := IntWalk.i64_in _ (by omega)
  have e2 : IntKind.i64.wrap (30 - z) = 30 - z := IntWalk.i64_in _ (by omega)
  have e3 : IntKind.i64.wrap (M - 1) = M - 1 := IntWalk.i64_in _ (by omega)
  by_cases hc : M - 1 < (n + 536870912) / S
  all_goals
    first | rw [show colM n M S = M - 1 from if_pos hc] | rw [show colM n M S = (n + 536870912) / S from if_neg hc]
    go_enter Try.func28, Try.ntmps28
    go_upto_region 1 with (fail)
    refine draws_hid (by kernel_rfl) (by kernel_rfl) (by kernel_rfl) (fun W hW ops hops => ?_)
    subst hW
    clear hops
    repeat (refine walkT_step (fun K hK => ?_); go_simp; (refine hK _ _ ?_; clear hK K))
    refine walkT_nil ?_
    intro w1 hc
    have hb := hc.below
    clear hc hM hM2 e1 e2 e3 hS
    go_wp2
    go_ret
    exact ⟨rfl, hb⟩
def sideI (z : Int) : Int := 2 ^ (30 - z).toNat
def manyI (z : Int) : Int := 2 ^ z.toNat
def colI (n z : Int) : Int := colM n (manyI z) (sideI z)
theorem manyI_bd {z : Int} (h1 : z ≤ 29) : 0 < manyI z ∧ manyI z ≤ 536870912 := ⟨t2_pos _, t2_le (k := 29) (by omega)⟩
theorem sideI_bd {z : Int} (h0 : 0 ≤ z) : 0 < sideI z ∧ sideI z ≤ 1073741824 := ⟨t2_pos _, t2_30 (by omega)⟩
theorem column_any (n z : Int) (w : World) (hn : okI n) (hz0 : 0 ≤ z) (hz1 : z ≤ 29) :
    Calls Try.prog 28 #[.int .i64 n, .int .i64 z] w fun e w' => e = .returned (.int .i64 (colI n z)) ∧ Below w.heap.size w w' :=
  column_at n z _ _ w hn hz0 hz1 (twrap (by omega)) rfl (manyI_bd hz1).1 (manyI_bd hz1).2


theorem of_yes (x y z : Int) (w : World) (hx : okI x) (hy : okI y) (hz0 : 0 ≤ z) (hz1 : z ≤ 29) :
    Calls Try.prog 8 #[.agg #[.int .i64 x, .int .i64 y], .int .i64 z] w fun e w' => e = .returned (.tuple #[.agg #[.int .i64 z, .int .i64 (colI x z), .int .i64 (colI y z)], .int .i64 0]) ∧ Below w.heap.size w w' := by
  have hx' := hx
  have hy' := hy
  obtain ⟨x0, x1⟩ := hx'
  obtain ⟨y0, y1⟩ := hy'
  go_enter Try.func8, Try.ntmps8
  go_upto_region 9 with (fail)
  refine draws_var (d := w.heap.size + 1) (heap_alloc_is (by simp)) (by kernel_rfl) (by kernel_rfl) (by kernel_rfl) (fun W hW ops hops => ?_)
  have hb : Below w.heap.size w W := by rw [hW]; go_grown
  have hz : w.heap.size + 2 ≤ W.heap.size := by rw [hW]; simp
  have g0 : W.heap[w.heap.size]? = some (.cells #[.int .i64 x, .int .i64 y] 23) := by rw [hW]; exact heap_alloc_lt (heap_alloc_is (rfl))
  have g1 : W.heap[w.heap.size + 1]? = some (.cells #[.int .i64 0, .int .i64 0, .int .i64 0] 25) := by rw [hW]; exact heap_alloc_is (by simp)
  clear hW
  clear hops
  have f0 : ∀ xl : Later W [w.heap.size + 1], xl.w.cell? ⟨w.heap.size, 0, none⟩ = some (.int .i64 x) := fun xl => cell_of_block (Later.at g0 (not_mem1 (by omega)) xl) rfl
  have f1 : ∀ xl : Later W [w.heap.size + 1], xl.w.cell? ⟨w.heap.size, 1, none⟩ = some (.int .i64 y) := fun xl => cell_of_block (Later.at g0 (not_mem1 (by omega)) xl) rfl
  repeat (refine walkT_step (fun K hK => ?_); go_simp; first | (refine hK _ _ ?_; clear hK K) | (refine ⟨_, fun x => column_any _ _ _ (by assumption) hz0 hz1, ?_⟩; refine hK _ _ ?_; clear hK K))
  refine walkT_fill (k := w.heap.size + 1) (ob := #[.int .i64 0, .int .i64 0, .int .i64 0]) (t := 25) (v := .agg #[.int .i64 z, .int .i64 (colI x z), .int .i64 (colI y z)]) rfl rfl rfl rfl (Gh.set_same _ _ _) rfl (by kernel_rfl) rfl rfl ?_
  repeat (refine walkT_step (fun K hK => ?_); go_simp; first | (refine hK _ _ ?_; clear hK K))
  refine walkT_nil ?_
  intro w1 hc
  replace g0 := hc.at g0 (not_mem1 (by omega))
  replace g1 : w1.heap[w.heap.size + 1]? = some (.cells #[.int .i64 z, .int .i64 (colI x z), .int .i64 (colI y z)] 25) := (hc.own (w.heap.size + 1) _ true (Gh.set_same _ _ _)).2
  replace hb := hb.trans (hc.kept.below hb.size (fun d hd => by rw [List.mem_singleton.1 hd]; omega))
  replace hz := Nat.le_trans hz hc.kept.size
  clear hc f0 f1 W
  go_wp2
  have r2 : w1.cell? ⟨w.heap.size + 1, 0, none⟩ = some (.int .i64 z) := cell_of_block g1 rfl
  have r3 : w1.cell? ⟨w.heap.size + 1, 1, none⟩ = some (.int .i64 (colI x z)) := cell_of_block g1 rfl
  have r4 : w1.cell? ⟨w.heap.size + 1, 2, none⟩ = some (.int .i64 (colI y z)) := cell_of_block g1 rfl
  exact bodyPost_ret (v := .tuple #[.agg #[.int .i64 z, .int .i64 (colI x z), .int .i64 (colI y z)], .int .i64 0]) (by simp [results, Try.results8, go_sem, r2, r3, r4]) rfl ⟨rfl, hb⟩


theorem of_deep (x y z : Int) (w : World) (h : ¬ (0 ≤ z ∧ z ≤ 29)) :
    Calls Try.prog 8 #[.agg #[.int .i64 x, .int .i64 y], .int .i64 z] w fun e w' => e = .returned (.tuple #[.agg #[.int .i64 0, .int .i64 0, .int .i64 0], .int .i64 1]) ∧ Below w.heap.size w w' := by
  by_cases h0 : z < 0
  ·
    clear h
    go_enter Try.func8, Try.ntmps8
    go_wp2
    exact bodyPost_ret (v := .tuple #[.agg #[.int .i64 0, .int .i64 0, .int .i64 0], .int .i64 1]) (by simp [results, Try.results8, go_sem]) rfl ⟨rfl, by go_grown⟩
  ·
    have hl : 29 < z := by omega
    clear h
    go_enter Try.func8, Try.ntmps8
    go_wp2
    exact bodyPost_ret (v := .tuple #[.agg #[.int .i64 0, .int .i64 0, .int .i64 0], .int .i64 1]) (by simp [results, Try.results8, go_sem]) rfl ⟨rfl, by go_grown⟩


theorem of_far (x y z : Int) (w : World) (hz0 : 0 ≤ z) (hz1 : z ≤ 29) (h : ¬ (okI x ∧ okI y)) :
    Calls Try.prog 8 #[.agg #[.int .i64 x, .int .i64 y], .int .i64 z] w fun e w' => e = .returned (.tuple #[.agg #[.int .i64 0, .int .i64 0, .int .i64 0], .int .i64 6]) ∧ Below w.heap.size w w' := by
  unfold okI at h
  by_cases h0 : x < -536870912
  ·
    clear h
    go_enter Try.func8, Try.ntmps8
    go_wp2
    exact bodyPost_ret (v := .tuple #[.agg #[.int .i64 0, .int .i64 0, .int .i64 0], .int .i64 6]) (by simp [results, Try.results8, go_sem]) rfl ⟨rfl, by go_grown⟩
  ·
    by_cases h1 : 536870912 < x
    ·
      clear h
      go_enter Try.func8, Try.ntmps8
      go_wp2
      exact bodyPost_ret (v := .tuple #[.agg #[.int .i64 0, .int .i64 0, .int .i64 0], .int .i64 6]) (by simp [results, Try.results8, go_sem]) rfl ⟨rfl, by go_grown⟩
    ·
      by_cases h2 : y < -536870912
      ·
        clear h
        go_enter Try.func8, Try.ntmps8
        go_wp2
        exact bodyPost_ret (v := .tuple #[.agg #[.int .i64 0, .int .i64 0, .int .i64 0], .int .i64 6]) (by simp [results, Try.results8, go_sem]) rfl ⟨rfl, by go_grown⟩
      ·
        have hl : 536870912 < y := by omega
        clear h
        go_enter Try.func8, Try.ntmps8
        go_wp2
        exact bodyPost_ret (v := .tuple #[.agg #[.int .i64 0, .int .i64 0, .int .i64 0], .int .i64 6]) (by simp [results, Try.results8, go_sem]) rfl ⟨rfl, by go_grown⟩

end Go.Proofs.Ytnpilmjpinmgfaa
