/-
  WALKS OVER TILES: which tiles there may be, in which one a point lies, its corners. CONDITIONS: stated.
-/
import Derived.Test.YtnpilmjpinmgfaaMay
import Derived.Lib.Hide
namespace Go.Proofs.Ytnpilmjpinmgfaa
open Go.RowKit Go.Proofs.Ytnpilmjpinmgfaa.Tame
set_option maxHeartbeats 400000

theorem twrap_is (n : Int) : IntKind.i64.wrap n = wrap64 n := by
  rw [IntKind.wrap_i64]; unfold wrap64; rfl
theorem t2_pos (j : Nat) : (0 : Int) < 2 ^ j := Int.pow_pos (by decide)
theorem t2_le {j k : Nat} (h : j ≤ k) : (2 : Int) ^ j ≤ 2 ^ k := by
  have := Nat.pow_le_pow_right (n := 2) (by decide) h
  have := Int.ofNat_le.2 this
  simpa using this
theorem t2_30 {k : Nat} (h : k ≤ 30) : (2 : Int) ^ k ≤ 1073741824 := t2_le h
theorem twrap {k : Nat} (h : k ≤ 30) : wrap64 (2 ^ k) = 2 ^ k := by
  have h1 := t2_30 h
  have h2 := t2_pos k
  exact IntWalk.wrap64_in _ ⟨by omega, by omega⟩

/-- May a tile be? (M: how many there are a side) -/
def tilM (z x y M : Int) : Bool := decide (0 ≤ z) && decide (z ≤ 29) && decide (0 ≤ x) && decide (0 ≤ y) && decide (x < M) && decide (y < M)
def tilB (z x y : Int) : Bool := tilM z x y (2 ^ z.toNat)

theorem reftile_at (z x y M : Int) (w : World) (hM : wrap64 (2 ^ z.toNat) = M) :
    Calls Try.prog 11 #[.agg #[.int .i64 z, .int .i64 x, .int .i64 y]] w fun e w' => e = .returned (.bool (tilM z x y M)) ∧ Below w.heap.size w w' := by
  by_cases h0 : 0 ≤ z
  rotate_left
  · clear hM
    go_enter Try.func11, Try.ntmps11
    go_wp2
    go_ret
    exact ⟨mret_bool (by simp [tilM]; omega), by go_grown⟩
  by_cases h1 : z ≤ 29
  rotate_left
  · clear hM
    go_enter Try.func11, Try.ntmps11
    go_wp2
    go_ret
    exact ⟨mret_bool (by simp [tilM]; omega), by go_grown⟩
  by_cases h2 : 0 ≤ x
  rotate_left
  ·
    go_enter Try.func11, Try.ntmps11
    go_wp2
    go_ret
    exact ⟨mret_bool (by simp [tilM]; omega), by go_grown⟩
  by_cases h3 : 0 ≤ y
  rotate_left
  ·
    go_enter Try.func11, Try.ntmps11
    go_wp2
    go_ret
    exact ⟨mret_bool (by simp [tilM]; omega), by go_grown⟩
  by_cases h4 : x < M
  rotate_left
  ·
    go_enter Try.func11, Try.ntmps11
    go_wp2
    go_ret
    exact ⟨mret_bool (by simp [tilM]; omega), by go_grown⟩
  go_enter Try.func11, Try.ntmps11
  go_wp2
  go_ret
  exact ⟨mret_bool (by simp [tilM, h0, h1, h2, h3, h4]; try omega), by go_grown⟩

theorem reftile_any (z x y : Int) (w : World) :
    Calls Try.prog 11 #[.agg #[.int .i64 z, .int .i64 x, .int .i64 y]] w fun e w' => e = .returned (.bool (tilB z x y)) ∧ Below w.heap.size w w' := by
  by_cases hk : 0 ≤ z ∧ z ≤ 29
  · exact reftile_at z x y _ w (twrap (k := z.toNat) (by omega))
  · have e : tilB z x y = tilM z x y (wrap64 (2 ^ z.toNat)) := by
      unfold tilB tilM
      by_cases h1 : 0 ≤ z
      · have h2 : ¬ z ≤ 29 := fun h => hk ⟨h1, h⟩
        simp [h2]
      · simp [h1]
    rw [e]
    exact reftile_at z x y _ w rfl

theorem tile_at (z x y M : Int) (w : World) (hM : wrap64 (2 ^ z.toNat) = M) :
    Calls Try.prog 20 #[.agg #[.int .i64 z, .int .i64 x, .int .i64 y]] w fun e w' => e = .returned (.bool (tilM z x y M)) ∧ Below w.heap.size w w' := by
  by_cases h0 : 0 ≤ z
  rotate_left
  · clear hM
    go_enter Try.func20, Try.ntmps20
    go_upto_region 1 with (fail)
    refine draws_hid (by kernel_rfl) (by kernel_rfl) (by kernel_rfl) (fun W hW ops hops => ?_)
    have hb : Below w.heap.size w W := by rw [hW]; go_grown
    have hz : w.heap.size + 1 ≤ W.heap.size := by rw [hW]; simp
    have g0 : W.heap[w.heap.size]? = some (.cells #[.int .i64 z, .int .i64 x, .int .i64 y] 25) := by rw [hW]; exact heap_alloc_is (rfl)
    clear hW
    have o3 : (ops[3]?).bind (fun x => x.dst) = some 6 := by rw [hops]; rfl
    have o8 : (ops[8]?).bind (fun x => x.dst) = some 11 := by rw [hops]; rfl
    have o13 : (ops[13]?).bind (fun x => x.dst) = some 16 := by rw [hops]; rfl
    have o18 : (ops[18]?).bind (fun x => x.dst) = some 21 := by rw [hops]; rfl
    have o26 : (ops[26]?).bind (fun x => x.dst) = some 29 := by rw [hops]; rfl
    clear hops
    have f0 : ∀ xl : Later W [], xl.w.cell? ⟨w.heap.size, 0, none⟩ = some (.int .i64 z) := fun xl => cell_of_block (Later.at0 g0 xl) rfl
    have f1 : ∀ xl : Later W [], xl.w.cell? ⟨w.heap.size, 1, none⟩ = some (.int .i64 x) := fun xl => cell_of_block (Later.at0 g0 xl) rfl
    have f2 : ∀ xl : Later W [], xl.w.cell? ⟨w.heap.size, 2, none⟩ = some (.int .i64 y) := fun xl => cell_of_block (Later.at0 g0 xl) rfl
    repeat (refine walkT_step (fun K hK => ?_); go_simp; first | (refine hK _ _ ?_; clear hK K))
    refine walkT_nil ?_
    intro w1 hc
    replace g0 := hc.at0 g0
    replace hb := hb.trans (hc.below.mono hb.size)
    replace hz := Nat.le_trans hz hc.kept.size
    clear hc o3 o8 o13 o18 o26 f0 f1 f2 W
    go_wp2
    go_ret
    exact ⟨mret_bool (by simp [tilM]; omega), hb⟩
  by_cases h1 : z ≤ 29
  rotate_left
  · clear hM
    go_enter Try.func20, Try.ntmps20
    go_upto_region 1 with (fail)
    refine draws_hid (by kernel_rfl) (by kernel_rfl) (by kernel_rfl) (fun W hW ops hops => ?_)
    have hb : Below w.heap.size w W := by rw [hW]; go_grown
    have hz : w.heap.size + 1 ≤ W.heap.size := by rw [hW]; simp
    have g0 : W.heap[w.heap.size]? = some (.cells #[.int .i64 z, .int .i64 x, .int .i64 y] 25) := by rw [hW]; exact heap_alloc_is (rfl)
    clear hW
    have o3 : (ops[3]?).bind (fun x => x.dst) = some 6 := by rw [hops]; rfl
    have o8 : (ops[8]?).bind (fun x => x.dst) = some 11 := by rw [hops]; rfl
    have o13 : (ops[13]?).bind (fun x => x.dst) = some 16 := by rw [hops]; rfl
    have o18 : (ops[18]?).bind (fun x => x.dst) = some 21 := by rw [hops]; rfl
    have o26 : (ops[26]?).bind (fun x => x.dst) = some 29 := by rw [hops]; rfl
    clear hops
    have f0 : ∀ xl : Later W [], xl.w.cell? ⟨w.heap.size, 0, none⟩ = some (.int .i64 z) := fun xl => cell_of_block (Later.at0 g0 xl) rfl
    have f1 : ∀ xl : Later W [], xl.w.cell? ⟨w.heap.size, 1, none⟩ = some (.int .i64 x) := fun xl => cell_of_block (Later.at0 g0 xl) rfl
    have f2 : ∀ xl : Later W [], xl.w.cell? ⟨w.heap.size, 2, none⟩ = some (.int .i64 y) := fun xl => cell_of_block (Later.at0 g0 xl) rfl
    repeat (refine walkT_step (fun K hK => ?_); go_simp; first | (refine hK _ _ ?_; clear hK K))
    refine walkT_nil ?_
    intro w1 hc
    replace g0 := hc.at0 g0
    replace hb := hb.trans (hc.below.mono hb.size)
    replace hz := Nat.le_trans hz hc.kept.size
    clear hc o3 o8 o13 o18 o26 f0 f1 f2 W
    go_wp2
    go_ret
    exact ⟨mret_bool (by simp [tilM]; omega), hb⟩
  by_cases h2 : 0 ≤ x
  rotate_left
  ·
    go_enter Try.func20, Try.ntmps20
    go_upto_region 1 with (fail)
    have hM2 : IntKind.i64.wrap (2 ^ z.toNat) = M := (twrap_is _).trans hM
    refine draws_hid (by kernel_rfl) (by kernel_rfl) (by kernel_rfl) (fun W hW ops hops => ?_)
    have hb : Below w.heap.size w W := by rw [hW]; go_grown
    have hz : w.heap.size + 1 ≤ W.heap.size := by rw [hW]; simp
    have g0 : W.heap[w.heap.size]? = some (.cells #[.int .i64 z, .int .i64 x, .int .i64 y] 25) := by rw [hW]; exact heap_alloc_is (rfl)
    clear hW
    have o3 : (ops[3]?).bind (fun x => x.dst) = some 6 := by rw [hops]; rfl
    have o8 : (ops[8]?).bind (fun x => x.dst) = some 11 := by rw [hops]; rfl
    have o13 : (ops[13]?).bind (fun x => x.dst) = some 16 := by rw [hops]; rfl
    have o18 : (ops[18]?).bind (fun x => x.dst) = some 21 := by rw [hops]; rfl
    have o26 : (ops[26]?).bind (fun x => x.dst) = some 29 := by rw [hops]; rfl
    clear hops
    have f0 : ∀ xl : Later W [], xl.w.cell? ⟨w.heap.size, 0, none⟩ = some (.int .i64 z) := fun xl => cell_of_block (Later.at0 g0 xl) rfl
    have f1 : ∀ xl : Later W [], xl.w.cell? ⟨w.heap.size, 1, none⟩ = some (.int .i64 x) := fun xl => cell_of_block (Later.at0 g0 xl) rfl
    have f2 : ∀ xl : Later W [], xl.w.cell? ⟨w.heap.size, 2, none⟩ = some (.int .i64 y) := fun xl => cell_of_block (Later.at0 g0 xl) rfl
    repeat (refine walkT_step (fun K hK => ?_); go_simp; first | (refine hK _ _ ?_; clear hK K))
    refine walkT_nil ?_
    intro w1 hc
    replace g0 := hc.at0 g0
    replace hb := hb.trans (hc.below.mono hb.size)
    replace hz := Nat.le_trans hz hc.kept.size
    clear hc o3 o8 o13 o18 o26 f0 f1 f2 W
    go_wp2
    go_ret
    exact ⟨mret_bool (by simp [tilM]; omega), hb⟩
  by_cases h3 : 0 ≤ y
  rotate_left
  ·
    go_enter Try.func20, Try.ntmps20
    go_upto_region 1 with (fail)
    have hM2 : IntKind.i64.wrap (2 ^ z.toNat) = M := (twrap_is _).trans hM
    refine draws_hid (by kernel_rfl) (by kernel_rfl) (by kernel_rfl) (fun W hW ops hops => ?_)
    have hb : Below w.heap.size w W := by rw [hW]; go_grown
    have hz : w.heap.size + 1 ≤ W.heap.size := by rw [hW]; simp
    have g0 : W.heap[w.heap.size]? = some (.cells #[.int .i64 z, .int .i64 x, .int .i64 y] 25) := by rw [hW]; exact heap_alloc_is (rfl)
    clear hW
    have o3 : (ops[3]?).bind (fun x => x.dst) = some 6 := by rw [hops]; rfl
    have o8 : (ops[8]?).bind (fun x => x.dst) = some 11 := by rw [hops]; rfl
    have o13 : (ops[13]?).bind (fun x => x.dst) = some 16 := by rw [hops]; rfl
    have o18 : (ops[18]?).bind (fun x => x.dst) = some 21 := by rw [hops]; rfl
    have o26 : (ops[26]?).bind (fun x => x.dst) = some 29 := by rw [hops]; rfl
    clear hops
    have f0 : ∀ xl : Later W [], xl.w.cell? ⟨w.heap.size, 0, none⟩ = some (.int .i64 z) := fun xl => cell_of_block (Later.at0 g0 xl) rfl
    have f1 : ∀ xl : Later W [], xl.w.cell? ⟨w.heap.size, 1, none⟩ = some (.int .i64 x) := fun xl => cell_of_block (Later.at0 g0 xl) rfl
    have f2 : ∀ xl : Later W [], xl.w.cell? ⟨w.heap.size, 2, none⟩ = some (.int .i64 y) := fun xl => cell_of_block (Later.at0 g0 xl) rfl
    repeat (refine walkT_step (fun K hK => ?_); go_simp; first | (refine hK _ _ ?_; clear hK K))
    refine walkT_nil ?_
    intro w1 hc
    replace g0 := hc.at0 g0
    replace hb := hb.trans (hc.below.mono hb.size)
    replace hz := Nat.le_trans hz hc.kept.size
    clear hc o3 o8 o13 o18 o26 f0 f1 f2 W
    go_wp2
    go_ret
    exact ⟨mret_bool (by simp [tilM]; omega), hb⟩
  by_cases h4 : x < M
  rotate_left
  ·
    go_enter Try.func20, Try.ntmps20
    go_upto_region 1 with (fail)
    have hM2 : IntKind.i64.wrap (2 ^ z.toNat) = M := (twrap_is _).trans hM
    refine draws_hid (by kernel_rfl) (by kernel_rfl) (by kernel_rfl) (fun W hW ops hops => ?_)
    have hb : Below w.heap.size w W := by rw [hW]; go_grown
    have hz : w.heap.size + 1 ≤ W.heap.size := by rw [hW]; simp
    have g0 : W.heap[w.heap.size]? = some (.cells #[.int .i64 z, .int .i64 x, .int .i64 y] 25) := by rw [hW]; exact heap_alloc_is (rfl)
    clear hW
    have o3 : (ops[3]?).bind (fun x => x.dst) = some 6 := by rw [hops]; rfl
    have o8 : (ops[8]?).bind (fun x => x.dst) = some 11 := by rw [hops]; rfl
    have o13 : (ops[13]?).bind (fun x => x.dst) = some 16 := by rw [hops]; rfl
    have o18 : (ops[18]?).bind (fun x => x.dst) = some 21 := by rw [hops]; rfl
    have o26 : (ops[26]?).bind (fun x => x.dst) = some 29 := by rw [hops]; rfl
    clear hops
    have f0 : ∀ xl : Later W [], xl.w.cell? ⟨w.heap.size, 0, none⟩ = some (.int .i64 z) := fun xl => cell_of_block (Later.at0 g0 xl) rfl
    have f1 : ∀ xl : Later W [], xl.w.cell? ⟨w.heap.size, 1, none⟩ = some (.int .i64 x) := fun xl => cell_of_block (Later.at0 g0 xl) rfl
    have f2 : ∀ xl : Later W [], xl.w.cell? ⟨w.heap.size, 2, none⟩ = some (.int .i64 y) := fun xl => cell_of_block (Later.at0 g0 xl) rfl
    repeat (refine walkT_step (fun K hK => ?_); go_simp; first | (refine hK _ _ ?_; clear hK K))
    refine walkT_nil ?_
    intro w1 hc
    replace g0 := hc.at0 g0
    replace hb := hb.trans (hc.below.mono hb.size)
    replace hz := Nat.le_trans hz hc.kept.size
    clear hc o3 o8 o13 o18 o26 f0 f1 f2 W
    go_wp2
    go_ret
    exact ⟨mret_bool (by simp [tilM]; omega), hb⟩
  go_enter Try.func20, Try.ntmps20
  go_upto_region 1 with (fail)
  have hM2 : IntKind.i64.wrap (2 ^ z.toNat) = M := (twrap_is _).trans hM
  refine draws_hid (by kernel_rfl) (by kernel_rfl) (by kernel_rfl) (fun W hW ops hops => ?_)
  have hb : Below w.heap.size w W := by rw [hW]; go_grown
  have hz : w.heap.size + 1 ≤ W.heap.size := by rw [hW]; simp
  have g0 : W.heap[w.heap.size]? = some (.cells #[.int .i64 z, .int .i64 x, .int .i64 y] 25) := by rw [hW]; exact heap_alloc_is (rfl)
  clear hW
  have o3 : (ops[3]?).bind (fun x => x.dst) = some 6 := by rw [hops]; rfl
  have o8 : (ops[8]?).bind (fun x => x.dst) = some 11 := by rw [hops]; rfl
  have o13 : (ops[13]?).bind (fun x => x.dst) = some 16 := by rw [hops]; rfl
  have o18 : (ops[18]?).bind (fun x => x.dst) = some 21 := by rw [hops]; rfl
  have o26 : (ops[26]?).bind (fun x => x.dst) = some 29 := by rw [hops]; rfl
  clear hops
  have f0 : ∀ xl : Later W [], xl.w.cell? ⟨w.heap.size, 0, none⟩ = some (.int .i64 z) := fun xl => cell_of_block (Later.at0 g0 xl) rfl
  have f1 : ∀ xl : Later W [], xl.w.cell? ⟨w.heap.size, 1, none⟩ = some (.int .i64 x) := fun xl => cell_of_block (Later.at0 g0 xl) rfl
  have f2 : ∀ xl : Later W [], xl.w.cell? ⟨w.heap.size, 2, none⟩ = some (.int .i64 y) := fun xl => cell_of_block (Later.at0 g0 xl) rfl
  repeat (refine walkT_step (fun K hK => ?_); go_simp; first | (refine hK _ _ ?_; clear hK K))
  refine walkT_nil ?_
  intro w1 hc
  replace g0 := hc.at0 g0
  replace hb := hb.trans (hc.below.mono hb.size)
  replace hz := Nat.le_trans hz hc.kept.size
  clear hc o3 o8 o13 o18 o26 f0 f1 f2 W
  go_wp2
  go_ret
  exact ⟨mret_bool (by simp [tilM, h0, h1, h2, h3, h4]; try omega), hb⟩

theorem tile_any (z x y : Int) (w : World) :
    Calls Try.prog 20 #[.agg #[.int .i64 z, .int .i64 x, .int .i64 y]] w fun e w' => e = .returned (.bool (tilB z x y)) ∧ Below w.heap.size w w' := by
  by_cases hk : 0 ≤ z ∧ z ≤ 29
  · exact tile_at z x y _ w (twrap (k := z.toNat) (by omega))
  · have e : tilB z x y = tilM z x y (wrap64 (2 ^ z.toNat)) := by
      unfold tilB tilM
      by_cases h1 : 0 ≤ z
      · have h2 : ¬ z ≤ 29 := fun h => hk ⟨h1, h⟩
        simp [h2]
      · simp [h1]
    rw [e]
    exact tile_at z x y _ w rfl

end Go.Proofs.Ytnpilmjpinmgfaa
