/-
  WALKS OVER TILES, 3: a tile's corners, by tile.Box and by the document. CONDITIONS: the tile may be (else: tile.Box says no).
-/
import Derived.Test.YtnpilmjpinmgfaaTile2
import Derived.Lib.Hide
namespace Go.Proofs.Ytnpilmjpinmgfaa
open Go.RowKit Go.Proofs.Ytnpilmjpinmgfaa.Tame
set_option maxHeartbeats 400000

theorem refbox_at (n : Nat) (x y S X Y : Int) (w : World) (hn : n ≤ 29) (hS : Hid ((2 : Int) ^ (30 - n) = S)) (hS0 : 0 < S) (hX : x * S = X) (hY : y * S = Y) (hX0 : 0 ≤ X) (hX1 : X + S ≤ 1073741824) (hY0 : 0 ≤ Y) (hY1 : Y + S ≤ 1073741824) :
    Calls Try.prog 12 #[.agg #[.int .i64 n, .int .i64 x, .int .i64 y]] w fun e w' => e = .returned (.agg #[.int .i64 (X - 536870912), .int .i64 (Y - 536870912), .int .i64 (X - 536870912 + S), .int .i64 (Y - 536870912 + S)]) ∧ Below w.heap.size w w' := by
  go_enter Try.func12, Try.ntmps12
  go_wp2
  go_loop [3, 4] (fun s3 s4 => ∃ j : Nat, j ≤ n ∧ s4 = .int .i64 j ∧ s3 = .int .i64 (2 ^ (30 - j))) (fun _ s4 => n - (intOf s4).toNat)
  case atStart => exact ⟨0, Nat.zero_le _, rfl, rfl⟩
  case round =>
    obtain ⟨j, hj, rfl, rfl⟩ := hrel
    by_cases hlt : j < n
    · have e1 : (2 : Int) ^ (30 - j) / 2 = 2 ^ (30 - (j + 1)) := by
        have : 30 - j = 30 - (j + 1) + 1 := by omega
        rw [this, Int.pow_succ]; omega
      have h0 := t2_pos (30 - j)
      have h1 := t2_30 (k := 30 - j) (by omega)
      have E1 := Lib.hid e1
      clear e1
      generalize hge : (2 : Int) ^ (30 - j) = m at *
      clear hge
      go_wp2
      go_round
      case rel => exact ⟨j + 1, hlt, by go_num, by rw [E1.out]⟩
      case measure => simp [intOf]; omega
    · obtain rfl : j = n := by omega
      have e1 := hS.out
      rw [e1]
      clear e1 hS
      go_wp2
      exact bodyPost_ret (v := .agg #[.int .i64 (X - 536870912), .int .i64 (Y - 536870912), .int .i64 (X - 536870912 + S), .int .i64 (Y - 536870912 + S)]) (by simp [results, Try.results12, go_sem]) rfl ⟨rfl, by go_grown⟩

theorem tbox_at (z x y S X Y : Int) (w : World) (hz0 : 0 ≤ z) (hz1 : z ≤ 29) (ht : Hid (tilB z x y = true)) (hS : wrap64 (2 ^ (30 - z).toNat) = S) (hS0 : 0 < S) (hX : x * S = X) (hY : y * S = Y) (hX0 : 0 ≤ X) (hX1 : X + S ≤ 1073741824) (hY0 : 0 ≤ Y) (hY1 : Y + S ≤ 1073741824) :
    Calls Try.prog 22 #[.agg #[.int .i64 z, .int .i64 x, .int .i64 y]] w fun e w' => e = .returned (.tuple #[.agg #[.int .i64 (X - 536870912), .int .i64 (Y - 536870912), .int .i64 (X - 536870912 + S), .int .i64 (Y - 536870912 + S)], .bool true]) ∧ Below w.heap.size w w' := by
  go_enter Try.func22, Try.ntmps22
  go_wp2_with fail
  refine (tile_any z x y _).mono ?_
  rintro e w2 ⟨rfl, hb2⟩
  rw [ht.out]
  have hw := (by go_grown : Below w.heap.size w ((w.alloc (.cells #[.int .i64 z, .int .i64 x, .int .i64 y] 25)).alloc (.cells #[.int .i64 0, .int .i64 0, .int .i64 0, .int .i64 0] 33))).trans (hb2.mono (by simp; omega))
  have g0 : w2.heap[w.heap.size]? = some (.cells #[.int .i64 z, .int .i64 x, .int .i64 y] 25) := (hb2.block _ (by simp; omega)).trans (heap_alloc_lt (heap_alloc_is rfl))
  have g1 : w2.heap[w.heap.size + 1]? = some (.cells #[.int .i64 0, .int .i64 0, .int .i64 0, .int .i64 0] 33) := (hb2.block _ (by simp)).trans (heap_alloc_is (by simp))
  have hz := lt_of_some g1
  clear hb2
  have c0 : w2.cell? ⟨w.heap.size, 0, none⟩ = some (.int .i64 z) := cell_of_block g0 rfl
  have c1 : w2.cell? ⟨w.heap.size, 1, none⟩ = some (.int .i64 x) := cell_of_block g0 rfl
  have c2 : w2.cell? ⟨w.heap.size, 2, none⟩ = some (.int .i64 y) := cell_of_block g0 rfl
  have d0 : w2.cell? ⟨w.heap.size + 1, 0, none⟩ = some (.int .i64 0) := cell_of_block g1 rfl
  have d1 : w2.cell? ⟨w.heap.size + 1, 1, none⟩ = some (.int .i64 0) := cell_of_block g1 rfl
  have d2 : w2.cell? ⟨w.heap.size + 1, 2, none⟩ = some (.int .i64 0) := cell_of_block g1 rfl
  have d3 : w2.cell? ⟨w.heap.size + 1, 3, none⟩ = some (.int .i64 0) := cell_of_block g1 rfl
  have f0 : w2.frozen? ⟨w.heap.size + 1, 0, none⟩ = false := free_of_block g1
  have f1 : w2.frozen? ⟨w.heap.size + 1, 1, none⟩ = false := free_of_block g1
  have f2 : w2.frozen? ⟨w.heap.size + 1, 2, none⟩ = false := free_of_block g1
  have f3 : w2.frozen? ⟨w.heap.size + 1, 3, none⟩ = false := free_of_block g1
  go_wp2_with fail
  exact bodyPost_ret (v := .tuple #[.agg #[.int .i64 (X - 536870912), .int .i64 (Y - 536870912), .int .i64 (X - 536870912 + S), .int .i64 (Y - 536870912 + S)], .bool true]) (by simp [results, Try.results22, go_sem, hz, d0, d1, d2, d3]) rfl ⟨rfl, ((((hw.setCell (by simp) _).setCell (by simp) _).setCell (by simp) _).setCell (by simp) _).alloc (by simp; omega) _⟩

theorem tbox_no (z x y : Int) (w : World) (ht : Hid (tilB z x y = false)) :
    Calls Try.prog 22 #[.agg #[.int .i64 z, .int .i64 x, .int .i64 y]] w fun e w' => e = .returned (.tuple #[.agg #[.int .i64 0, .int .i64 0, .int .i64 0, .int .i64 0], .bool false]) ∧ Below w.heap.size w w' := by
  go_enter Try.func22, Try.ntmps22
  go_wp2_with fail
  refine (tile_any z x y _).mono ?_
  rintro e w2 ⟨rfl, hb2⟩
  rw [ht.out]
  have hw := (by go_grown : Below w.heap.size w ((w.alloc (.cells #[.int .i64 z, .int .i64 x, .int .i64 y] 25)).alloc (.cells #[.int .i64 0, .int .i64 0, .int .i64 0, .int .i64 0] 33))).trans (hb2.mono (by simp; omega))
  have g1 : w2.heap[w.heap.size + 1]? = some (.cells #[.int .i64 0, .int .i64 0, .int .i64 0, .int .i64 0] 33) := (hb2.block _ (by simp)).trans (heap_alloc_is (by simp))
  have hz := lt_of_some g1
  clear hb2
  have d0 : w2.cell? ⟨w.heap.size + 1, 0, none⟩ = some (.int .i64 0) := cell_of_block g1 rfl
  have d1 : w2.cell? ⟨w.heap.size + 1, 1, none⟩ = some (.int .i64 0) := cell_of_block g1 rfl
  have d2 : w2.cell? ⟨w.heap.size + 1, 2, none⟩ = some (.int .i64 0) := cell_of_block g1 rfl
  have d3 : w2.cell? ⟨w.heap.size + 1, 3, none⟩ = some (.int .i64 0) := cell_of_block g1 rfl
  have f0 : w2.frozen? ⟨w.heap.size + 1, 0, none⟩ = false := free_of_block g1
  have f1 : w2.frozen? ⟨w.heap.size + 1, 1, none⟩ = false := free_of_block g1
  have f2 : w2.frozen? ⟨w.heap.size + 1, 2, none⟩ = false := free_of_block g1
  have f3 : w2.frozen? ⟨w.heap.size + 1, 3, none⟩ = false := free_of_block g1
  go_wp2_with fail
  exact bodyPost_ret (v := .tuple #[.agg #[.int .i64 0, .int .i64 0, .int .i64 0, .int .i64 0], .bool false]) (by simp [results, Try.results22, go_sem, d0, d1, d2, d3]) rfl ⟨rfl, (((hw.setCell (by simp) _).setCell (by simp) _).setCell (by simp) _).setCell (by simp) _⟩
end Go.Proofs.Ytnpilmjpinmgfaa
