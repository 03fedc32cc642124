/-
  PROVED: TileOf: the tile of a depth in which a point lies: the point is in its corners. CONDITIONS: none: for every point and every depth.
-/
import Derived.Test.YtnpilmjpinmgfaaTParse
import Derived.Test.YtnpilmjpinmgfaaKit
import Derived.Lib.Hide
namespace Go.Proofs.Ytnpilmjpinmgfaa
open Go.RowKit Go.Proofs.Ytnpilmjpinmgfaa.Tame
set_option maxHeartbeats 400000


theorem keep {W w1 : World} {k : Nat} {o : Obj} (hb : Below W.heap.size W w1) (g : W.heap[k]? = some o) : w1.heap[k]? = some o := (hb.block _ (lt_of_some g)).trans g
theorem tPt : Try.prog.cellTypes Try.prog.depth 23 = some [3, 3] := by kernel_rfl
theorem cPt : Try.prog.cellsOf 23 = 2 := by kernel_rfl
theorem uInt : ∀ u, u ∈ ([3, 3] : List TypeId) → Try.prog.underlying u = some (.int .i64) := by
  intro u hu; simp at hu; subst hu; exact Try.underlying3

theorem tawake_any (w : World) : Calls Try.prog 9 #[] w fun e w' => e = .returned (.bool true) ∧ Below w.heap.size w w' := by
  have K1 : Hid (∀ w, Calls Try.prog 17 #[.agg #[.int .i64 2, .int .i64 1, .int .i64 2]] w fun e w' => e = .returned (.tuple #[.string ⟨#[50, 49]⟩, .int .i64 0]) ∧ Below w.heap.size w w') := Lib.hid fun w => by
    have h := tkey_at 2 1 2 w (by omega) (Lib.hid (by decide))
    have e : keyL 2 1 2 = [50, 49] := by decide
    rw [e] at h
    exact h
  have P1 : Hid (∀ w, Calls Try.prog 18 #[.string ⟨#[50, 49]⟩] w fun e w' => e = .returned (.tuple #[.agg #[.int .i64 2, .int .i64 1, .int .i64 2], .int .i64 0]) ∧ Below w.heap.size w w') := Lib.hid fun w => parse_any ⟨#[50, 49]⟩ w (by decide)
  have O1 : Hid (∀ w, Calls Try.prog 8 #[.agg #[.int .i64 5, .int .i64 (-5)], .int .i64 1] w fun e w' => e = .returned (.tuple #[.agg #[.int .i64 1, .int .i64 1, .int .i64 0], .int .i64 0]) ∧ Below w.heap.size w w') := Lib.hid fun w => by
    have h := of_yes 5 (-5) 1 w (by unfold okI; omega) (by unfold okI; omega) (by omega) (by omega)
    have e1 : colI 5 1 = 1 := by decide
    have e2 : colI (-5) 1 = 0 := by decide
    rw [e1, e2] at h
    exact h
  go_enter Try.func9, Try.ntmps9
  go_wp2_with fail
  refine (K1.out _).mono ?_
  rintro e w1 ⟨rfl, hb1⟩
  go_wp2_with fail
  refine (P1.out _).mono ?_
  rintro e w2 ⟨rfl, hb2⟩
  have hw2 := hb1.trans (hb2.mono hb1.size)
  have hz2 := hw2.size
  go_wp2_with fail
  refine (O1.out _).mono ?_
  rintro e w3 ⟨rfl, hb3⟩
  have g3 : w3.heap[w2.heap.size]? = some (.cells #[.int .i64 2, .int .i64 1, .int .i64 2] 25) := keep hb3 (heap_alloc_is rfl)
  have hw3 := (hw2.alloc hz2 (.cells #[.int .i64 2, .int .i64 1, .int .i64 2] 25)).trans (hb3.mono (by simp; omega))
  have c0 : w3.cell? ⟨w2.heap.size, 0, none⟩ = some (.int .i64 2) := cell_of_block g3 rfl
  have c1 : w3.cell? ⟨w2.heap.size, 1, none⟩ = some (.int .i64 1) := cell_of_block g3 rfl
  have c2 : w3.cell? ⟨w2.heap.size, 2, none⟩ = some (.int .i64 2) := cell_of_block g3 rfl
  have hlt := lt_of_some g3
  clear hb1 hb2 hb3
  go_wp2_with fail
  go_ret
  exact ⟨rfl, hw3.alloc hw3.size _⟩

theorem x_div (n S : Int) (hS : 0 < S) : (n + 536870912) / S * S ≤ n + 536870912 ∧ n + 536870912 < (n + 536870912) / S * S + S := by
  have h1 := Int.emod_add_mul_ediv (n + 536870912) S
  have h2 := Int.emod_nonneg (n + 536870912) (Int.ne_of_gt hS)
  have h3 := Int.emod_lt_of_pos (n + 536870912) hS
  rw [Int.mul_comm] at h1
  omega
theorem col_plain (n M S : Int) (hM : 0 < M) (hS : 0 < S) (hMS : M * S = 1073741824) (hn : okI n) : 0 ≤ colM n M S ∧ colM n M S < M ∧ 0 ≤ colM n M S * S ∧ colM n M S * S + S ≤ 1073741824 ∧
    colM n M S * S - 536870912 ≤ n ∧ n ≤ colM n M S * S - 536870912 + S ∧ (n < colM n M S * S - 536870912 + S ∨ (¬ n < colM n M S * S - 536870912 + S ∧ n = 536870912)) := by
  obtain ⟨n0, n1⟩ := hn
  obtain ⟨d0, d1⟩ := x_div n S hS
  have dn : 0 ≤ (n + 536870912) / S := Int.ediv_nonneg (by omega) (by omega)
  unfold colM
  by_cases h : M - 1 < (n + 536870912) / S
  · rw [if_pos h]
    have e : (M - 1) * S = M * S - S := by rw [Int.sub_mul]; omega
    have h2 : M * S ≤ (n + 536870912) / S * S := Int.mul_le_mul_of_nonneg_right (by omega) (by omega)
    have h3 : 1 * S ≤ M * S := Int.mul_le_mul_of_nonneg_right (by omega) (by omega)
    rw [e]
    omega
  · rw [if_neg h]
    have h2 : ((n + 536870912) / S + 1) * S ≤ M * S := Int.mul_le_mul_of_nonneg_right (by omega) (by omega)
    rw [Int.add_mul] at h2
    have h3 : 0 ≤ (n + 536870912) / S * S := Int.mul_nonneg dn (by omega)
    omega
theorem many_side (z : Int) (h0 : 0 ≤ z) (h1 : z ≤ 29) : manyI z * sideI z = 1073741824 := by
  unfold manyI sideI
  rw [← Int.pow_add]
  have : z.toNat + (30 - z).toNat = 30 := by omega
  rw [this]; rfl

set_option maxHeartbeats 1000000 in
theorem tileof_deep (x y z : Int) (w : World) (h : ¬ (0 ≤ z ∧ z ≤ 29)) (Hof : Hid (∀ w, Calls Try.prog 8 #[.agg #[.int .i64 x, .int .i64 y], .int .i64 z] w fun e w' => e = .returned (.tuple #[.agg #[.int .i64 0, .int .i64 0, .int .i64 0], .int .i64 1]) ∧ Below w.heap.size w w')) :
    Calls Try.prog 3 #[.agg #[.int .i64 x, .int .i64 y], .int .i64 z] w fun e w' => e = .returned (.bool true) ∧ Below w.heap.size w w' := by
  by_cases h0 : z < 0
  rotate_left
  · have h1 : 29 < z := by omega
    clear h h0
    go_enter Try.func3, Try.ntmps3
    go_wp2_with fail
    refine (Hof.out _).mono ?_
    rintro e w1 ⟨rfl, hb1⟩
    have hw1 : Below w.heap.size w w1 := (by go_grown : Below w.heap.size w (w.alloc (.cells #[.int .i64 x, .int .i64 y] 23))).trans (hb1.mono (by simp))
    have gp1 : w1.heap[w.heap.size]? = some (.cells #[.int .i64 x, .int .i64 y] 23) := keep hb1 (heap_alloc_is rfl)
    have hz1 := hw1.size
    have hl1 := lt_of_some gp1
    clear hb1
    have p0 : w1.cell? ⟨w.heap.size, 0, none⟩ = some (.int .i64 x) := cell_of_block gp1 rfl
    have p1 : w1.cell? ⟨w.heap.size, 1, none⟩ = some (.int .i64 y) := cell_of_block gp1 rfl
    go_wp2_with fail
    refine (tawake_any _).mono ?_
    rintro e wz ⟨rfl, hbz⟩
    go_wp2_with fail
    go_ret
    exact ⟨rfl, (hw1.alloc hz1 _).trans (hbz.mono (by simp; omega))⟩
  · clear h
    go_enter Try.func3, Try.ntmps3
    go_wp2_with fail
    refine (Hof.out _).mono ?_
    rintro e w1 ⟨rfl, hb1⟩
    have hw1 : Below w.heap.size w w1 := (by go_grown : Below w.heap.size w (w.alloc (.cells #[.int .i64 x, .int .i64 y] 23))).trans (hb1.mono (by simp))
    have gp1 : w1.heap[w.heap.size]? = some (.cells #[.int .i64 x, .int .i64 y] 23) := keep hb1 (heap_alloc_is rfl)
    have hz1 := hw1.size
    have hl1 := lt_of_some gp1
    clear hb1
    have p0 : w1.cell? ⟨w.heap.size, 0, none⟩ = some (.int .i64 x) := cell_of_block gp1 rfl
    have p1 : w1.cell? ⟨w.heap.size, 1, none⟩ = some (.int .i64 y) := cell_of_block gp1 rfl
    go_wp2_with fail
    refine (tawake_any _).mono ?_
    rintro e wz ⟨rfl, hbz⟩
    go_wp2_with fail
    go_ret
    exact ⟨rfl, (hw1.alloc hz1 _).trans (hbz.mono (by simp; omega))⟩

set_option maxHeartbeats 1000000 in
theorem tileof_far (x y z : Int) (w : World) (h0 : 0 ≤ z) (h1 : z ≤ 29) (Hof : Hid (∀ w, Calls Try.prog 8 #[.agg #[.int .i64 x, .int .i64 y], .int .i64 z] w fun e w' => e = .returned (.tuple #[.agg #[.int .i64 0, .int .i64 0, .int .i64 0], .int .i64 6]) ∧ Below w.heap.size w w')) (Hmay : Hid (∀ w, Calls Try.prog 10 #[.agg #[.int .i64 x, .int .i64 y]] w fun e w' => e = .returned (.bool false) ∧ Below w.heap.size w w')) :
    Calls Try.prog 3 #[.agg #[.int .i64 x, .int .i64 y], .int .i64 z] w fun e w' => e = .returned (.bool true) ∧ Below w.heap.size w w' := by
  go_enter Try.func3, Try.ntmps3
  go_wp2_with fail
  refine (Hof.out _).mono ?_
  rintro e w1 ⟨rfl, hb1⟩
  have hw1 : Below w.heap.size w w1 := (by go_grown : Below w.heap.size w (w.alloc (.cells #[.int .i64 x, .int .i64 y] 23))).trans (hb1.mono (by simp))
  have gp1 : w1.heap[w.heap.size]? = some (.cells #[.int .i64 x, .int .i64 y] 23) := keep hb1 (heap_alloc_is rfl)
  have hz1 := hw1.size
  have hl1 := lt_of_some gp1
  clear hb1
  have p0 : w1.cell? ⟨w.heap.size, 0, none⟩ = some (.int .i64 x) := cell_of_block gp1 rfl
  have p1 : w1.cell? ⟨w.heap.size, 1, none⟩ = some (.int .i64 y) := cell_of_block gp1 rfl
  go_wp2_with fail
  refine (Hmay.out _).mono ?_
  rintro e w2 ⟨rfl, hb2⟩
  have gt2 : w2.heap[w1.heap.size]? = some (.cells #[.int .i64 0, .int .i64 0, .int .i64 0] 25) := keep hb2 (heap_alloc_is rfl)
  have hw2 := (hw1.alloc hz1 (.cells #[.int .i64 0, .int .i64 0, .int .i64 0] 25)).trans (hb2.mono (by simp; omega))
  clear hb2 p0 p1
  have t0 : w2.cell? ⟨w1.heap.size, 0, none⟩ = some (.int .i64 0) := cell_of_block gt2 rfl
  have t1 : w2.cell? ⟨w1.heap.size, 1, none⟩ = some (.int .i64 0) := cell_of_block gt2 rfl
  have t2 : w2.cell? ⟨w1.heap.size, 2, none⟩ = some (.int .i64 0) := cell_of_block gt2 rfl
  go_wp2_with fail
  refine (tawake_any _).mono ?_
  rintro e wz ⟨rfl, hbz⟩
  go_wp2_with fail
  go_ret
  exact ⟨rfl, hw2.trans (hbz.mono hw2.size)⟩

set_option maxHeartbeats 2000000 in
theorem tileof_yes (x y z a b X Y S : Int) (w : World) (h0 : 0 ≤ z) (h1 : z ≤ 29) (Hof : Hid (∀ w, Calls Try.prog 8 #[.agg #[.int .i64 x, .int .i64 y], .int .i64 z] w fun e w' => e = .returned (.tuple #[.agg #[.int .i64 z, .int .i64 a, .int .i64 b], .int .i64 0]) ∧ Below w.heap.size w w')) (Hmay : Hid (∀ w, Calls Try.prog 10 #[.agg #[.int .i64 x, .int .i64 y]] w fun e w' => e = .returned (.bool true) ∧ Below w.heap.size w w')) (Htm : Hid (∀ w, Calls Try.prog 11 #[.agg #[.int .i64 z, .int .i64 a, .int .i64 b]] w fun e w' => e = .returned (.bool true) ∧ Below w.heap.size w w')) (Hbox : Hid (∀ w, Calls Try.prog 12 #[.agg #[.int .i64 z, .int .i64 a, .int .i64 b]] w fun e w' => e = .returned (.agg #[.int .i64 (X - 536870912), .int .i64 (Y - 536870912), .int .i64 (X - 536870912 + S), .int .i64 (Y - 536870912 + S)]) ∧ Below w.heap.size w w'))
    (hX1 : X - 536870912 ≤ x) (hX2 : x ≤ X - 536870912 + S) (hX3 : x < X - 536870912 + S ∨ (¬ x < X - 536870912 + S ∧ x = 536870912)) (hY1 : Y - 536870912 ≤ y) (hY2 : y ≤ Y - 536870912 + S) (hY3 : y < Y - 536870912 + S ∨ (¬ y < Y - 536870912 + S ∧ y = 536870912)) :
    Calls Try.prog 3 #[.agg #[.int .i64 x, .int .i64 y], .int .i64 z] w fun e w' => e = .returned (.bool true) ∧ Below w.heap.size w w' := by
  rcases hX3 with hX3 | ⟨hX3, hX4⟩ <;> rcases hY3 with hY3 | ⟨hY3, hY4⟩
  all_goals
    try subst hX4
    try subst hY4
    go_enter Try.func3, Try.ntmps3
    go_wp2_with fail
    refine (Hof.out _).mono ?_
    rintro e w1 ⟨rfl, hb1⟩
    have hw1 : Below w.heap.size w w1 := (by go_grown : Below w.heap.size w (w.alloc (.cells #[.int .i64 _, .int .i64 _] 23))).trans (hb1.mono (by simp))
    have gp1 : w1.heap[w.heap.size]? = some (.cells #[.int .i64 _, .int .i64 _] 23) := keep hb1 (heap_alloc_is rfl)
    have hz1 := hw1.size
    have hl1 := lt_of_some gp1
    clear hb1
    have p0 : w1.cell? ⟨w.heap.size, 0, none⟩ = some (.int .i64 _) := cell_of_block gp1 rfl
    have p1 : w1.cell? ⟨w.heap.size, 1, none⟩ = some (.int .i64 _) := cell_of_block gp1 rfl
    go_wp2_with fail
    refine (Hmay.out _).mono ?_
    rintro e w2 ⟨rfl, hb2⟩
    have gt2 : w2.heap[w1.heap.size]? = some (.cells #[.int .i64 z, .int .i64 a, .int .i64 b] 25) := keep hb2 (heap_alloc_is rfl)
    have gp2 := keep hb2 (heap_alloc_lt gp1)
    have hw2 := (hw1.alloc hz1 (.cells #[.int .i64 z, .int .i64 a, .int .i64 b] 25)).trans (hb2.mono (by simp; omega))
    clear hb2 p0 p1 gp1
    have t0 : w2.cell? ⟨w1.heap.size, 0, none⟩ = some (.int .i64 z) := cell_of_block gt2 rfl
    have t1 : w2.cell? ⟨w1.heap.size, 1, none⟩ = some (.int .i64 a) := cell_of_block gt2 rfl
    have t2 : w2.cell? ⟨w1.heap.size, 2, none⟩ = some (.int .i64 b) := cell_of_block gt2 rfl
    go_wp2_with fail
    refine (Htm.out _).mono ?_
    rintro e w3 ⟨rfl, hb3⟩
    have gt3 := keep hb3 gt2
    have gp3 := keep hb3 gp2
    have hw3 := hw2.trans (hb3.mono hw2.size)
    clear t0 t1 t2 hb3 gt2 gp2 hw2
    have t0 : w3.cell? ⟨w1.heap.size, 0, none⟩ = some (.int .i64 z) := cell_of_block gt3 rfl
    have t1 : w3.cell? ⟨w1.heap.size, 1, none⟩ = some (.int .i64 a) := cell_of_block gt3 rfl
    have t2 : w3.cell? ⟨w1.heap.size, 2, none⟩ = some (.int .i64 b) := cell_of_block gt3 rfl
    go_wp2_with fail
    refine (Hbox.out _).mono ?_
    rintro e w4 ⟨rfl, hb4⟩
    have gp4 := keep hb4 gp3
    have hw4 := hw3.trans (hb4.mono hw3.size)
    have hz4 := lt_of_some gp4
    clear t0 t1 t2 hb4 gt3 gp3 hw3
    have p0 : w4.cell? ⟨w.heap.size, 0, none⟩ = some (.int .i64 _) := cell_of_block gp4 rfl
    have p1 : w4.cell? ⟨w.heap.size, 1, none⟩ = some (.int .i64 _) := cell_of_block gp4 rfl
    go_wp2_with fail
    refine (tawake_any _).mono ?_
    rintro e wz ⟨rfl, hbz⟩
    go_wp2_with fail
    go_ret
    exact ⟨rfl, (hw4.alloc hw4.size _).trans (hbz.mono (by simp; have := hw4.size; omega))⟩


theorem tileof_all (x y z : Int) (w : World) : Calls Try.prog 3 #[.agg #[.int .i64 x, .int .i64 y], .int .i64 z] w fun e w' => e = .returned (.bool true) ∧ Below w.heap.size w w' := by
  by_cases hz : 0 ≤ z ∧ z ≤ 29
  · cases hm : mayB x y
    · exact tileof_far x y z w hz.1 hz.2 (Lib.hid fun w => of_far x y z w hz.1 hz.2 (fun h => by simp [mayB, inB, h.1.1, h.1.2, h.2.1, h.2.2] at hm)) (Lib.hid fun w => by rw [← hm]; exact refmay_any x y w)
    · have hx := mayB_x hm
      have hy := mayB_y hm
      obtain ⟨x1, x2, x3, x4, x5, x6, x7⟩ := col_plain x (manyI z) (sideI z) (manyI_bd hz.2).1 (sideI_bd hz.1).1 (many_side z hz.1 hz.2) hx
      obtain ⟨y1, y2, y3, y4, y5, y6, y7⟩ := col_plain y (manyI z) (sideI z) (manyI_bd hz.2).1 (sideI_bd hz.1).1 (many_side z hz.1 hz.2) hy
      have ht : tilB z (colI x z) (colI y z) = true := by
        unfold tilB tilM
        simp only [Bool.and_eq_true, decide_eq_true_eq]
        exact ⟨⟨⟨⟨⟨hz.1, hz.2⟩, x1⟩, y1⟩, x2⟩, y2⟩
      refine tileof_yes x y z (colI x z) (colI y z) (colI x z * sideI z) (colI y z * sideI z) (sideI z) w hz.1 hz.2 (Lib.hid fun w => of_yes x y z w hx hy hz.1 hz.2) (Lib.hid fun w => by rw [← hm]; exact refmay_any x y w) (Lib.hid fun w => by rw [← ht]; exact reftile_any _ _ _ w) (Lib.hid fun w => ?_) x5 x6 x7 y5 y6 y7
      have hn : ((z.toNat : Nat) : Int) = z := by omega
      have h := refbox_at z.toNat (colI x z) (colI y z) (sideI z) _ _ w (by omega) (Lib.hid (by unfold sideI; congr 1; omega)) (sideI_bd hz.1).1 rfl rfl x3 x4 y3 y4
      rw [hn] at h
      exact h
  · exact tileof_deep x y z w hz (Lib.hid fun w => of_deep x y z w hz)


namespace tileOf
open Go.ChangeShapes Go.WideShapes Go.ChangeAt
theorem spec_is (H : Type) : ∀ ds : List (DataW H), ds.length = 2 → Rows.tileOfSpec.fn H ds = { results := [.lit (.bool true)], args := ds }
  | [], h => by cases h
  | [_], h => by cases h
  | [_, _], _ => rfl
  | _ :: _ :: _ :: _, h => by simp at h

theorem args_of {args : Array Value} (h : args.size = 2) : ∃ v0 v1, args = #[v0, v1] := by
  refine ⟨args[0], args[1], ?_⟩
  apply Array.ext
  · simpa using h
  · intro i h1 h2
    match i, h1 with
    | 0, _ => rfl
    | 1, _ => rfl
    | m + 2, hm => exact absurd hm (by omega)

set_option maxRecDepth 100000 in
theorem over : Rows.tileOfRow.holds Try.pinned (OpenSpec.ofChange Rows.tileOfSpec) :=
  OpenClaim.holds_of_wide 3 Try.f3 rfl rfl rfl rfl rfl rfl rfl ⟨rfl, rfl, rfl, rfl, rfl⟩ rfl rfl rfl rfl rfl (by kernel_rfl) Try.func3 (by kernel_rfl)
    (of_decide_eq_true (by kernel_rfl)) (by unfold Func.isWrapper; first | (rw [if_pos (by decide +kernel)]; kernel_rfl) | (rw [if_neg (by decide +kernel)]; exact ⟨rfl, rfl⟩))
    (fun os started H enc _ => Kit.lifted (C := Try.checked) (tb := 4) (n := 2) (by kernel_rfl) (by kernel_rfl) (by kernel_rfl) Try.func3 rfl (by kernel_rfl) Try.underlying4 (by kernel_rfl)
      (by
        have e : Try.f3.params.toList = [23, 3] := by rw [Try.params3]
        rw [e]
        intro t ht
        simp only [List.mem_cons, List.not_mem_nil, or_false] at ht
        rcases ht with rfl | rfl <;> exact ⟨by kernel_rfl, of_decide_eq_true (by kernel_rfl)⟩)
      spec_is
      (by
        intro W base args H enc ds p hn hval hA hfz hz
        obtain ⟨v0, v1, rfl⟩ := args_of hn
        rw [Try.params3] at hval
        have k0 := hval 0 23 v0 rfl rfl
        have k1 := hval 1 3 v1 rfl rfl
        clear hval
        obtain ⟨x, y, rfl, _, _⟩ := Kit.agg2_of Try.underlying23 cPt tPt uInt k0
        obtain ⟨z, rfl, _⟩ := Kit.int_of Try.underlying3 k1
        exact tileof_all x y z W)
      os started H enc
      (ChangeSpec.witness6 (enc := enc) (C := Try.checked) false ⟨#[], #[.agg #[.int .i64 0, .int .i64 0], .int .i64 0], []⟩ 8 (by kernel_rfl) (by kernel_rfl) (by kernel_rfl) (by kernel_rfl)))
end tileOf

/-- THE STATEMENT. -/
theorem tileOf_holds : Rows.TileOfSaid := tileOf.over
#print axioms tileOf_holds

end Go.Proofs.Ytnpilmjpinmgfaa
