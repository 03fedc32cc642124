/-
  WALKS OVER TILES, 4: the document's key, the tile above. CONDITIONS: stated.
-/
import Derived.Test.YtnpilmjpinmgfaaTParse
import Derived.Lib.Hide
namespace Go.Proofs.Ytnpilmjpinmgfaa
open Go.RowKit Go.Proofs.Ytnpilmjpinmgfaa.Tame
set_option maxHeartbeats 400000

theorem keyL_succ (n : Nat) (x y : Int) : keyL (n + 1) x y = keyL n (x / 2) (y / 2) ++ [UInt8.ofNat (digI x y).toNat] := by
  unfold keyL; show List.map _ (keyI n (x / 2) (y / 2) ++ [digI x y]) = _; rw [List.map_append]; rfl

/-- The last digit, as a list of bytes. -/
def digL (x y : Int) : List UInt8 := [UInt8.ofNat (digI x y).toNat]
theorem digL_cases (x y : Int) : (x % 2 = 0 ∧ y % 2 = 0 ∧ digL x y = [48]) ∨ (x % 2 = 1 ∧ y % 2 = 0 ∧ digL x y = [49]) ∨ (x % 2 = 0 ∧ y % 2 = 1 ∧ digL x y = [50]) ∨ (x % 2 = 1 ∧ y % 2 = 1 ∧ digL x y = [51]) := by
  have h : (x % 2 = 0 ∧ y % 2 = 0) ∨ (x % 2 = 1 ∧ y % 2 = 0) ∨ (x % 2 = 0 ∧ y % 2 = 1) ∨ (x % 2 = 1 ∧ y % 2 = 1) := by omega
  unfold digL digI
  rcases h with ⟨h1, h2⟩ | ⟨h1, h2⟩ | ⟨h1, h2⟩ | ⟨h1, h2⟩ <;> rw [h1, h2] <;> simp

theorem refkeyt_at (n : Nat) (x y : Int) (w : World) (hn : n ≤ 29) (hx0 : 0 ≤ x) (hy0 : 0 ≤ y) (hx1 : x ≤ 536870912) (hy1 : y ≤ 536870912) :
    Calls Try.prog 19 #[.agg #[.int .i64 n, .int .i64 x, .int .i64 y]] w fun e w' => e = .returned (.string ⟨(keyL n x y).toArray⟩) ∧ Below w.heap.size w w' := by
  go_enter Try.func19, Try.ntmps19
  go_wp2
  go_loopw [4] (fun s4 wr => ∃ (j : Nat) (X Y : Int) (t : List UInt8), j ≤ n ∧ s4 = .string ⟨t.toArray⟩ ∧ Hid (keyL j X Y ++ t = keyL n x y) ∧ Hid (t.length + j = n) ∧ 0 ≤ X ∧ X ≤ 536870912 ∧ 0 ≤ Y ∧ Y ≤ 536870912 ∧ Below w.heap.size w wr ∧ wr.heap[w.heap.size]? = some (.cells #[.int .i64 j, .int .i64 X, .int .i64 Y] 25)) (fun _ wr => match wr.cell? ⟨w.heap.size, 0, none⟩ with | some v => (intOf v).toNat | none => 0)
  case atStart => exact ⟨n, x, y, [], Nat.le_refl _, rfl, Lib.hid (List.append_nil _), Lib.hid (by simp), hx0, hx1, hy0, hy1, by go_grown, heap_alloc_is rfl⟩
  case round =>
    obtain ⟨j, X, Y, t, hj, rfl, ht, htl, X0, X1, Y0, Y1, hb, g⟩ := hrel
    cases j with
    | zero =>
      have c0 : wr.cell? ⟨w.heap.size, 0, none⟩ = some (.int .i64 ((0 : Nat) : Int)) := cell_of_block g rfl
      have c0' : wr.cell? ⟨w.heap.size, 0, none⟩ = some (.int .i64 0) := c0
      clear c0
      have e : (⟨t.toArray⟩ : ByteArray) = ⟨(keyL n x y).toArray⟩ := by rw [← ht.out]; rfl
      go_wp2
      go_ret
      exact ⟨ret_v (congrArg Value.string e), hb⟩
    | succ j =>
      have c0 : wr.cell? ⟨w.heap.size, 0, none⟩ = some (.int .i64 ((j + 1 : Nat) : Int)) := cell_of_block g rfl
      have c1 : wr.cell? ⟨w.heap.size, 1, none⟩ = some (.int .i64 X) := cell_of_block g rfl
      have c2 : wr.cell? ⟨w.heap.size, 2, none⟩ = some (.int .i64 Y) := cell_of_block g rfl
      have d0 : wr.frozen? ⟨w.heap.size, 0, none⟩ = false := free_of_block g
      have d1 : wr.frozen? ⟨w.heap.size, 1, none⟩ = false := free_of_block g
      have d2 : wr.frozen? ⟨w.heap.size, 2, none⟩ = false := free_of_block g
      have hks := keyL_succ j X Y
      have hdl : [UInt8.ofNat (digI X Y).toNat] = digL X Y := rfl
      rw [hdl] at hks
      clear hdl
      have HT : Hid (keyL j (X / 2) (Y / 2) ++ (digL X Y ++ t) = keyL n x y) := Lib.hid (by rw [← ht.out, hks, List.append_assoc])
      clear hks ht
      have hl := htl.out
      rcases digL_cases X Y with ⟨h1, h2, h3⟩ | ⟨h1, h2, h3⟩ | ⟨h1, h2, h3⟩ | ⟨h1, h2, h3⟩
      · rw [h3] at HT
        clear h3
        go_wp2
        go_roundw
        case rel => exact ⟨j, X / 2, Y / 2, [48] ++ t, by omega, congrArg Value.string (by apply ByteArray.ext; simp), HT, Lib.hid (by rw [List.length_append, List.length_singleton]; omega), by omega, by omega, by omega, by omega, ((hb.setCell (by simp) _).setCell (by simp) _).setCell (by simp) _, set_block (set_block (set_block g))⟩
        case measure =>
          rw [c0, cell_of_block (j := 0) (set_block (set_block (set_block g))) rfl]
          simp [intOf]
      · rw [h3] at HT
        clear h3
        go_wp2
        go_roundw
        case rel => exact ⟨j, X / 2, Y / 2, [49] ++ t, by omega, congrArg Value.string (by apply ByteArray.ext; simp), HT, Lib.hid (by rw [List.length_append, List.length_singleton]; omega), by omega, by omega, by omega, by omega, ((hb.setCell (by simp) _).setCell (by simp) _).setCell (by simp) _, set_block (set_block (set_block g))⟩
        case measure =>
          rw [c0, cell_of_block (j := 0) (set_block (set_block (set_block g))) rfl]
          simp [intOf]
      · rw [h3] at HT
        clear h3
        go_wp2
        go_roundw
        case rel => exact ⟨j, X / 2, Y / 2, [50] ++ t, by omega, congrArg Value.string (by apply ByteArray.ext; simp), HT, Lib.hid (by rw [List.length_append, List.length_singleton]; omega), by omega, by omega, by omega, by omega, ((hb.setCell (by simp) _).setCell (by simp) _).setCell (by simp) _, set_block (set_block (set_block g))⟩
        case measure =>
          rw [c0, cell_of_block (j := 0) (set_block (set_block (set_block g))) rfl]
          simp [intOf]
      · rw [h3] at HT
        clear h3
        go_wp2
        go_roundw
        case rel => exact ⟨j, X / 2, Y / 2, [51] ++ t, by omega, congrArg Value.string (by apply ByteArray.ext; simp), HT, Lib.hid (by rw [List.length_append, List.length_singleton]; omega), by omega, by omega, by omega, by omega, ((hb.setCell (by simp) _).setCell (by simp) _).setCell (by simp) _, set_block (set_block (set_block g))⟩
        case measure =>
          rw [c0, cell_of_block (j := 0) (set_block (set_block (set_block g))) rfl]
          simp [intOf]

theorem up_yes (z x y : Int) (w : World) (hz0 : 0 < z) (hz1 : z ≤ 29) (ht : Hid (tilB z x y = true)) (hx0 : 0 ≤ x) (hy0 : 0 ≤ y) (hx1 : x ≤ 536870912) (hy1 : y ≤ 536870912) :
    Calls Try.prog 21 #[.agg #[.int .i64 z, .int .i64 x, .int .i64 y]] w fun e w' => e = .returned (.tuple #[.agg #[.int .i64 (z - 1), .int .i64 (x / 2), .int .i64 (y / 2)], .bool true]) ∧ Below w.heap.size w w' := by
  go_enter Try.func21, Try.ntmps21
  go_wp2_with fail
  refine (tile_any z x y _).mono ?_
  rintro e w2 ⟨rfl, hb2⟩
  rw [ht.out]
  have hw := (by go_grown : Below w.heap.size w ((w.alloc (.cells #[.int .i64 z, .int .i64 x, .int .i64 y] 25)).alloc (.cells #[.int .i64 0, .int .i64 0, .int .i64 0] 25))).trans (hb2.mono (by simp; omega))
  have g0 : w2.heap[w.heap.size]? = some (.cells #[.int .i64 z, .int .i64 x, .int .i64 y] 25) := (hb2.block _ (by simp; omega)).trans (heap_alloc_lt (heap_alloc_is rfl))
  have g1 : w2.heap[w.heap.size + 1]? = some (.cells #[.int .i64 0, .int .i64 0, .int .i64 0] 25) := (hb2.block _ (by simp)).trans (heap_alloc_is (by simp))
  have hz := lt_of_some g1
  clear hb2
  have c0 : w2.cell? ⟨w.heap.size, 0, none⟩ = some (.int .i64 z) := cell_of_block g0 rfl
  have c1 : w2.cell? ⟨w.heap.size, 1, none⟩ = some (.int .i64 x) := cell_of_block g0 rfl
  have c2 : w2.cell? ⟨w.heap.size, 2, none⟩ = some (.int .i64 y) := cell_of_block g0 rfl
  have d0 : w2.cell? ⟨w.heap.size + 1, 0, none⟩ = some (.int .i64 0) := cell_of_block g1 rfl
  have d1 : w2.cell? ⟨w.heap.size + 1, 1, none⟩ = some (.int .i64 0) := cell_of_block g1 rfl
  have d2 : w2.cell? ⟨w.heap.size + 1, 2, none⟩ = some (.int .i64 0) := cell_of_block g1 rfl
  have f0 : w2.frozen? ⟨w.heap.size + 1, 0, none⟩ = false := free_of_block g1
  have f1 : w2.frozen? ⟨w.heap.size + 1, 1, none⟩ = false := free_of_block g1
  have f2 : w2.frozen? ⟨w.heap.size + 1, 2, none⟩ = false := free_of_block g1
  have hb0 : (z == 0) = false := beq_eq_false_iff_ne.2 (by omega)
  go_wp2_with fail
  exact bodyPost_ret (v := .tuple #[.agg #[.int .i64 (z - 1), .int .i64 (x / 2), .int .i64 (y / 2)], .bool true]) (by simp [results, Try.results21, go_sem, d0, d1, d2]) rfl ⟨rfl, ((hw.setCell (by simp) _).setCell (by simp) _).setCell (by simp) _⟩

theorem up_no (z x y : Int) (w : World) (b : Bool) (ht : Hid (tilB z x y = b)) (h : b = false ∨ z = 0) :
    Calls Try.prog 21 #[.agg #[.int .i64 z, .int .i64 x, .int .i64 y]] w fun e w' => e = .returned (.tuple #[.agg #[.int .i64 0, .int .i64 0, .int .i64 0], .bool false]) ∧ Below w.heap.size w w' := by
  rcases h with rfl | rfl
  all_goals
    go_enter Try.func21, Try.ntmps21
    go_wp2_with fail
    refine (tile_any _ x y _).mono ?_
    rintro e w2 ⟨rfl, hb2⟩
    rw [ht.out]
    have hw := (by go_grown : Below w.heap.size w ((w.alloc (.cells #[.int .i64 _, .int .i64 x, .int .i64 y] 25)).alloc (.cells #[.int .i64 0, .int .i64 0, .int .i64 0] 25))).trans (hb2.mono (by simp; omega))
    have g0 : w2.heap[w.heap.size]? = some (.cells #[.int .i64 _, .int .i64 x, .int .i64 y] 25) := (hb2.block _ (by simp; omega)).trans (heap_alloc_lt (heap_alloc_is rfl))
    have g1 : w2.heap[w.heap.size + 1]? = some (.cells #[.int .i64 0, .int .i64 0, .int .i64 0] 25) := (hb2.block _ (by simp)).trans (heap_alloc_is (by simp))
    have hz := lt_of_some g1
    clear hb2
    have c0 : w2.cell? ⟨w.heap.size, 0, none⟩ = some (.int .i64 _) := cell_of_block g0 rfl
    have d0 : w2.cell? ⟨w.heap.size + 1, 0, none⟩ = some (.int .i64 0) := cell_of_block g1 rfl
    have d1 : w2.cell? ⟨w.heap.size + 1, 1, none⟩ = some (.int .i64 0) := cell_of_block g1 rfl
    have d2 : w2.cell? ⟨w.heap.size + 1, 2, none⟩ = some (.int .i64 0) := cell_of_block g1 rfl
    have f0 : w2.frozen? ⟨w.heap.size + 1, 0, none⟩ = false := free_of_block g1
    have f1 : w2.frozen? ⟨w.heap.size + 1, 1, none⟩ = false := free_of_block g1
    have f2 : w2.frozen? ⟨w.heap.size + 1, 2, none⟩ = false := free_of_block g1
    try cases b
    all_goals
      go_wp2_with fail
      exact bodyPost_ret (v := .tuple #[.agg #[.int .i64 0, .int .i64 0, .int .i64 0], .bool false]) (by simp [results, Try.results21, go_sem, d0, d1, d2]) rfl ⟨rfl, ((hw.setCell (by simp) _).setCell (by simp) _).setCell (by simp) _⟩
end Go.Proofs.Ytnpilmjpinmgfaa
