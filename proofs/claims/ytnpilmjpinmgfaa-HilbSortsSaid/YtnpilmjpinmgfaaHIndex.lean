/-
  WALKS OF THE TWO INDEXES OF A SQUARE: the document's (it calls itself) and hilb.Index. CONDITIONS: the order is from 0 to 20 and the square is one of that order's.
-/
import Derived.Test.YtnpilmjpinmgfaaHPoint2
import Derived.Lib.Hide
namespace Go.Proofs.Ytnpilmjpinmgfaa
open Go.RowKit Go.Proofs.Ytnpilmjpinmgfaa.Tame
set_option maxHeartbeats 400000


theorem hix_bd (k : Nat) : ∀ x y : Int, 0 ≤ x → x < 2 ^ k → 0 ≤ y → y < 2 ^ k → 0 ≤ hix k x y ∧ hix k x y < 4 ^ k := by
  induction k with
  | zero => intro x y _ _ _ _; simp [hix]
  | succ k ih =>
    intro x y h0 h1 h2 h3
    have hm := pow2_pos k
    have a0 := Int.emod_nonneg x (Int.ne_of_gt hm)
    have a1 := Int.emod_lt_of_pos x hm
    have b0 := Int.emod_nonneg y (Int.ne_of_gt hm)
    have b1 := Int.emod_lt_of_pos y hm
    have c1 := ih _ _ a0 a1 b0 b1
    have c2 := ih _ _ b0 b1 a0 a1
    have c3 := ih (2 ^ k - 1 - y % 2 ^ k) (2 ^ k - 1 - x % 2 ^ k) (by omega) (by omega) (by omega) (by omega)
    rw [hix_succ, Int.pow_succ]
    split
    · omega
    · split
      · omega
      · split <;> omega


theorem refindex_step (k : Nat) (x y H A : Int) (w : World) (hk : k + 1 ≤ 20) (hx0 : 0 ≤ x) (hy0 : 0 ≤ y) (hH0 : 0 < H) (hH1 : H ≤ 524288)
    (hH : Hid (H = 2 ^ k)) (hA : Hid (A = 4 ^ k)) (hA0 : 0 < A) (hA1 : A ≤ 274877906944) (hAH : Hid (H * H = A))
    (ih : Hid (∀ (x y : Int) (w : World), 0 ≤ x → x < H → 0 ≤ y → y < H → Calls Try.prog 16 #[.int .i64 k, .agg #[.int .i64 x, .int .i64 y]] w fun e w' => e = .returned (.int .i64 (hix k x y)) ∧ Below w.heap.size w w')) :
    Calls Try.prog 16 #[.int .i64 (k + 1), .agg #[.int .i64 x, .int .i64 y]] w fun e w' => e = .returned (.int .i64 (hix (k + 1) x y)) ∧ Below w.heap.size w w' := by
  have hw : wrap64 (2 ^ k) = H := by rw [hH.out]; exact wrap2 (by omega)
  have a0 := Int.emod_nonneg x (Int.ne_of_gt hH0)
  have a1 := Int.emod_lt_of_pos x hH0
  have b0 := Int.emod_nonneg y (Int.ne_of_gt hH0)
  have b1 := Int.emod_lt_of_pos y hH0
  have hne : ¬ H = 0 := Int.ne_of_gt hH0
  have tx : x.tmod H = x % H := Int.tmod_eq_emod_of_nonneg hx0
  have ty : y.tmod H = y % H := Int.tmod_eq_emod_of_nonneg hy0
  have hbd := hix_bd k
  rw [← hH.out, ← hA.out] at hbd
  have c1 := hbd _ _ a0 a1 b0 b1
  have c2 := hbd _ _ b0 b1 a0 a1
  have c3 := hbd (H - 1 - y % H) (H - 1 - x % H) (by omega) (by omega) (by omega) (by omega)
  clear hbd
  have hs := hix_succ k x y
  rw [← hH.out, ← hA.out] at hs
  have HS := Lib.hid hs
  clear hs
  generalize hX : x % H = X at *
  generalize hY : y % H = Y at *
  clear hX hY
  by_cases hc : x < H
  · by_cases hd : y < H
    ·
      have hs : hix (k + 1) x y = hix k Y X := by rw [HS.out, if_pos ⟨hc, hd⟩]
      rw [hs]
      clear hs
      generalize hr : hix k Y X = r at *
      have HR := Lib.hid hr
      clear hr
      go_enter Try.func16, Try.ntmps16
      go_upto_region 4 with (fail)
      refine draws_hid (by kernel_rfl) (by kernel_rfl) (by kernel_rfl) (fun W hW ops hops => ?_)
      have hb : Below w.heap.size w W := by rw [hW]; go_grown
      have hz : w.heap.size + 1 ≤ W.heap.size := by rw [hW]; simp
      have g0 : W.heap[w.heap.size]? = some (.cells #[.int .i64 x, .int .i64 y] 23) := by rw [hW]; exact heap_alloc_is (rfl)
      clear hW
      clear hops
      have f0 : ∀ xl : Later W [], xl.w.cell? ⟨w.heap.size, 0, none⟩ = some (.int .i64 x) := fun xl => cell_of_block (Later.at0 g0 xl) rfl
      have f1 : ∀ xl : Later W [], xl.w.cell? ⟨w.heap.size, 1, none⟩ = some (.int .i64 y) := fun xl => cell_of_block (Later.at0 g0 xl) rfl
      repeat (refine walkT_step (fun K hK => ?_); go_simp; first | (refine hK _ _ ?_; clear hK K))
      refine walkT_nil ?_
      intro w1 hc
      replace g0 := hc.at0 g0
      replace hb := hb.trans (hc.below.mono hb.size)
      replace hz := Nat.le_trans hz hc.kept.size
      clear hc f0 f1 W
      have f2 : w1.cell? ⟨w.heap.size, 0, none⟩ = some (.int .i64 x) := cell_of_block g0 rfl
      have f3 : w1.cell? ⟨w.heap.size, 1, none⟩ = some (.int .i64 y) := cell_of_block g0 rfl
      have hAH' := hAH.out
      clear tx ty hne
      go_wp2_with fail
      refine (ih.out Y X _ (by omega) (by omega) (by omega) (by omega)).mono ?_
      rintro e w2 ⟨rfl, hb2⟩
      rw [HR.out]
      clear f2 f3
      go_wp2_with fail
      go_ret
      exact ⟨rfl, hb.trans (hb2.mono hb.size)⟩
    ·
      have hs : hix (k + 1) x y = A + hix k X Y := by rw [HS.out, if_neg (by omega), if_pos hc]
      rw [hs]
      clear hs
      generalize hr : hix k X Y = r at *
      have HR := Lib.hid hr
      clear hr
      go_enter Try.func16, Try.ntmps16
      go_upto_region 4 with (fail)
      refine draws_hid (by kernel_rfl) (by kernel_rfl) (by kernel_rfl) (fun W hW ops hops => ?_)
      have hb : Below w.heap.size w W := by rw [hW]; go_grown
      have hz : w.heap.size + 1 ≤ W.heap.size := by rw [hW]; simp
      have g0 : W.heap[w.heap.size]? = some (.cells #[.int .i64 x, .int .i64 y] 23) := by rw [hW]; exact heap_alloc_is (rfl)
      clear hW
      clear hops
      have f0 : ∀ xl : Later W [], xl.w.cell? ⟨w.heap.size, 0, none⟩ = some (.int .i64 x) := fun xl => cell_of_block (Later.at0 g0 xl) rfl
      have f1 : ∀ xl : Later W [], xl.w.cell? ⟨w.heap.size, 1, none⟩ = some (.int .i64 y) := fun xl => cell_of_block (Later.at0 g0 xl) rfl
      repeat (refine walkT_step (fun K hK => ?_); go_simp; first | (refine hK _ _ ?_; clear hK K))
      refine walkT_nil ?_
      intro w1 hc
      replace g0 := hc.at0 g0
      replace hb := hb.trans (hc.below.mono hb.size)
      replace hz := Nat.le_trans hz hc.kept.size
      clear hc f0 f1 W
      have f2 : w1.cell? ⟨w.heap.size, 0, none⟩ = some (.int .i64 x) := cell_of_block g0 rfl
      have f3 : w1.cell? ⟨w.heap.size, 1, none⟩ = some (.int .i64 y) := cell_of_block g0 rfl
      have hAH' := hAH.out
      clear tx ty hne
      go_wp2_with fail
      refine (ih.out X Y _ (by omega) (by omega) (by omega) (by omega)).mono ?_
      rintro e w2 ⟨rfl, hb2⟩
      rw [HR.out]
      clear f2 f3
      go_wp2_with fail
      go_ret
      exact ⟨rfl, hb.trans (hb2.mono hb.size)⟩
  · by_cases hd : y < H
    ·
      have hs : hix (k + 1) x y = 3 * A + hix k (H - 1 - Y) (H - 1 - X) := by rw [HS.out, if_neg (by omega), if_neg hc, if_neg (by omega)]
      rw [hs]
      clear hs
      generalize hr : hix k (H - 1 - Y) (H - 1 - X) = r at *
      have HR := Lib.hid hr
      clear hr
      go_enter Try.func16, Try.ntmps16
      go_upto_region 4 with (fail)
      refine draws_hid (by kernel_rfl) (by kernel_rfl) (by kernel_rfl) (fun W hW ops hops => ?_)
      have hb : Below w.heap.size w W := by rw [hW]; go_grown
      have hz : w.heap.size + 1 ≤ W.heap.size := by rw [hW]; simp
      have g0 : W.heap[w.heap.size]? = some (.cells #[.int .i64 x, .int .i64 y] 23) := by rw [hW]; exact heap_alloc_is (rfl)
      clear hW
      clear hops
      have f0 : ∀ xl : Later W [], xl.w.cell? ⟨w.heap.size, 0, none⟩ = some (.int .i64 x) := fun xl => cell_of_block (Later.at0 g0 xl) rfl
      have f1 : ∀ xl : Later W [], xl.w.cell? ⟨w.heap.size, 1, none⟩ = some (.int .i64 y) := fun xl => cell_of_block (Later.at0 g0 xl) rfl
      repeat (refine walkT_step (fun K hK => ?_); go_simp; first | (refine hK _ _ ?_; clear hK K))
      refine walkT_nil ?_
      intro w1 hc
      replace g0 := hc.at0 g0
      replace hb := hb.trans (hc.below.mono hb.size)
      replace hz := Nat.le_trans hz hc.kept.size
      clear hc f0 f1 W
      have f2 : w1.cell? ⟨w.heap.size, 0, none⟩ = some (.int .i64 x) := cell_of_block g0 rfl
      have f3 : w1.cell? ⟨w.heap.size, 1, none⟩ = some (.int .i64 y) := cell_of_block g0 rfl
      have hAH' := hAH.out
      clear tx ty hne
      go_wp2_with fail
      refine (ih.out (H - 1 - Y) (H - 1 - X) _ (by omega) (by omega) (by omega) (by omega)).mono ?_
      rintro e w2 ⟨rfl, hb2⟩
      rw [HR.out]
      clear f2 f3
      go_wp2_with fail
      go_ret
      exact ⟨rfl, hb.trans (hb2.mono hb.size)⟩
    ·
      have hs : hix (k + 1) x y = 2 * A + hix k X Y := by rw [HS.out, if_neg (by omega), if_neg hc, if_pos (by omega)]
      rw [hs]
      clear hs
      generalize hr : hix k X Y = r at *
      have HR := Lib.hid hr
      clear hr
      go_enter Try.func16, Try.ntmps16
      go_upto_region 4 with (fail)
      refine draws_hid (by kernel_rfl) (by kernel_rfl) (by kernel_rfl) (fun W hW ops hops => ?_)
      have hb : Below w.heap.size w W := by rw [hW]; go_grown
      have hz : w.heap.size + 1 ≤ W.heap.size := by rw [hW]; simp
      have g0 : W.heap[w.heap.size]? = some (.cells #[.int .i64 x, .int .i64 y] 23) := by rw [hW]; exact heap_alloc_is (rfl)
      clear hW
      clear hops
      have f0 : ∀ xl : Later W [], xl.w.cell? ⟨w.heap.size, 0, none⟩ = some (.int .i64 x) := fun xl => cell_of_block (Later.at0 g0 xl) rfl
      have f1 : ∀ xl : Later W [], xl.w.cell? ⟨w.heap.size, 1, none⟩ = some (.int .i64 y) := fun xl => cell_of_block (Later.at0 g0 xl) rfl
      repeat (refine walkT_step (fun K hK => ?_); go_simp; first | (refine hK _ _ ?_; clear hK K))
      refine walkT_nil ?_
      intro w1 hc
      replace g0 := hc.at0 g0
      replace hb := hb.trans (hc.below.mono hb.size)
      replace hz := Nat.le_trans hz hc.kept.size
      clear hc f0 f1 W
      have f2 : w1.cell? ⟨w.heap.size, 0, none⟩ = some (.int .i64 x) := cell_of_block g0 rfl
      have f3 : w1.cell? ⟨w.heap.size, 1, none⟩ = some (.int .i64 y) := cell_of_block g0 rfl
      have hAH' := hAH.out
      clear tx ty hne
      go_wp2_with fail
      refine (ih.out X Y _ (by omega) (by omega) (by omega) (by omega)).mono ?_
      rintro e w2 ⟨rfl, hb2⟩
      rw [HR.out]
      clear f2 f3
      go_wp2_with fail
      go_ret
      exact ⟨rfl, hb.trans (hb2.mono hb.size)⟩


theorem refindex_any (k : Nat) : ∀ (x y : Int) (w : World), k ≤ 20 → 0 ≤ x → x < 2 ^ k → 0 ≤ y → y < 2 ^ k →
    Calls Try.prog 16 #[.int .i64 k, .agg #[.int .i64 x, .int .i64 y]] w fun e w' => e = .returned (.int .i64 (hix k x y)) ∧ Below w.heap.size w w' := by
  induction k with
  | zero =>
    intro x y w _ _ _ _ _
    have e : hix 0 x y = 0 := rfl
    rw [e]
    clear e
    show Calls Try.prog 16 #[.int .i64 0, .agg #[.int .i64 x, .int .i64 y]] w fun e w' => e = .returned (.int .i64 0) ∧ Below w.heap.size w w'
    go_enter Try.func16, Try.ntmps16
    go_wp2_with fail
    go_ret
    exact ⟨rfl, by go_grown⟩
  | succ k ih =>
    intro x y w hk hx0 _ hy0 _
    have hsq : (2 : Int) ^ k * 2 ^ k = 4 ^ k := by rw [← pow4_is, ← Int.pow_add]; congr 1; omega
    exact refindex_step k x y (2 ^ k) (4 ^ k) w hk hx0 hy0 (pow2_pos k) (pow2_le (k := 19) (by omega)) (Lib.hid rfl) (Lib.hid rfl) (pow4_pos k) (pow4_le (k := 19) (by omega)) (Lib.hid hsq)
      (Lib.hid fun x y w h0 h1 h2 h3 => ih x y w (by omega) h0 h1 h2 h3)

theorem hix_step (j : Nat) (X Y H : Int) (hH : H = 2 ^ j) (hX0 : 0 ≤ X) (hX1 : X < H + H) (hY0 : 0 ≤ Y) (hY1 : Y < H + H) : ∃ q : Int, quartI X Y H = q ∧ 0 ≤ q ∧ q ≤ 3 ∧ 0 ≤ X - cX q H ∧ X - cX q H < H ∧ 0 ≤ Y - cY q H ∧ Y - cY q H < H ∧
    hix (j + 1) X Y = q * 4 ^ j + hix j (tX (X - cX q H) (Y - cY q H) q H) (tY (X - cX q H) (Y - cY q H) q H) := by
  have hm := pow2_pos j
  rw [hix_succ, ← hH]
  rw [← hH] at hm
  have hX : H ≤ X → X % H = X - H := fun h => by
    have : X = (X - H) + H := by omega
    rw [this, Int.add_emod_right, Int.emod_eq_of_lt (by omega) (by omega)]; omega
  have hY : H ≤ Y → Y % H = Y - H := fun h => by
    have : Y = (Y - H) + H := by omega
    rw [this, Int.add_emod_right, Int.emod_eq_of_lt (by omega) (by omega)]; omega
  by_cases h1 : X < H <;> by_cases h2 : Y < H
  · refine ⟨0, by simp [quartI, h1, h2], by omega, by omega, ?_⟩
    rw [if_pos ⟨h1, h2⟩, Int.emod_eq_of_lt hX0 h1, Int.emod_eq_of_lt hY0 h2]
    simp [tX, tY, cX, cY]; omega
  · refine ⟨1, by simp [quartI, h1, h2], by omega, by omega, ?_⟩
    rw [if_neg (by omega), if_pos h1, Int.emod_eq_of_lt hX0 h1, hY (by omega)]
    simp [tX, tY, cX, cY]; omega
  · refine ⟨3, by simp [quartI, h1]; omega, by omega, by omega, ?_⟩
    rw [if_neg (by omega), if_neg h1, if_neg (by omega), Int.emod_eq_of_lt hY0 h2, hX (by omega)]
    simp [tX, tY, cX, cY]; omega
  · refine ⟨2, by simp [quartI, h1]; omega, by omega, by omega, ?_⟩
    rw [if_neg (by omega), if_neg h1, if_pos (by omega), hX (by omega), hY (by omega)]
    simp [tX, tY, cX, cY]; omega

theorem hindex_no (k x y : Int) (w : World) (h : insB k x y = false) :
    Calls Try.prog 24 #[.int .i64 k, .agg #[.int .i64 x, .int .i64 y]] w fun e w' => e = .returned (.tuple #[.int .i64 0, .int .i64 1]) ∧ Below w.heap.size w w' := by
  go_enter Try.func24, Try.ntmps24
  go_wp2_with fail
  refine (inside_any k x y _).mono ?_
  rintro e w2 ⟨rfl, hb2⟩
  rw [h]
  clear h
  go_wp2_with fail
  go_ret2
  exact ⟨rfl, (by go_grown : Below w.heap.size w (w.alloc _)).trans (hb2.mono (by simp))⟩

set_option maxHeartbeats 1000000 in
theorem hindex_at (k : Nat) (x y M R : Int) (w : World) (hk : k ≤ 20) (hM : wrap64 (2 ^ k) = M) (hM' : Hid (M = 2 ^ k)) (hM1 : 0 < M) (hM2 : M ≤ 1048576) (hR : Hid (hix k x y = R)) (hR1 : R < 1099511627776) (hx0 : 0 ≤ x) (hx1 : x < M) (hy0 : 0 ≤ y) (hy1 : y < M) (h : Hid (insB k x y = true)) :
    Calls Try.prog 24 #[.int .i64 k, .agg #[.int .i64 x, .int .i64 y]] w fun e w' => e = .returned (.tuple #[.int .i64 R, .int .i64 0]) ∧ Below w.heap.size w w' := by
  go_enter Try.func24, Try.ntmps24
  go_wp2_with fail
  refine (inside_any k x y _).mono ?_
  rintro e w2 ⟨rfl, hb2⟩
  rw [h.out]
  have hb := (by go_grown : Below w.heap.size w (w.alloc (.cells #[.int .i64 x, .int .i64 y] 23))).trans (hb2.mono (by simp))
  have g0 : w2.heap[w.heap.size]? = some (.cells #[.int .i64 x, .int .i64 y] 23) := (hb2.block _ (by simp)).trans (heap_alloc_is rfl)
  clear hb2 h
  go_wp2_with fail
  rw [hM]
  go_loopw [6, 7] (fun s6 s7 wr => ∃ (j : Nat) (X Y O : Int), j ≤ k ∧ s7 = .int .i64 (2 ^ j / 2) ∧ s6 = .int .i64 O ∧ 0 ≤ O ∧ O + hix j X Y = R ∧ 0 ≤ X ∧ X < 2 ^ j ∧ 0 ≤ Y ∧ Y < 2 ^ j ∧ Below w.heap.size w wr ∧ wr.heap[w.heap.size]? = some (.cells #[.int .i64 X, .int .i64 Y] 23)) (fun _ s7 _ => (intOf s7).toNat)
  case atStart => exact ⟨k, x, y, 0, Nat.le_refl _, congrArg (Value.int .i64) (by rw [hM'.out]), rfl, by omega, by rw [hR.out]; omega, hx0, by rw [← hM'.out]; exact hx1, hy0, by rw [← hM'.out]; exact hy1, hb, g0⟩
  case round =>
    obtain ⟨j, X, Y, O, hj, rfl, rfl, hO, hOR, hX0, hX1, hY0, hY1, hbr, gr⟩ := hrel
    cases j with
    | zero =>
      have hOR' : O = R := by rw [← hOR]; simp [hix]
      subst hOR'
      clear hOR hX0 hX1 hY0 hY1 hR
      have e0 : (2 : Int) ^ 0 / 2 = 0 := rfl
      rw [e0]
      clear e0
      go_wp2_with fail
      go_ret2
      exact ⟨rfl, hbr⟩
    | succ j =>
      have e1 : (2 : Int) ^ (j + 1) = 2 ^ j + 2 ^ j := by rw [Int.pow_succ]; omega
      have e2 : (2 : Int) ^ (j + 1) / 2 = 2 ^ j := by omega
      rw [e2]
      rw [e1] at hX1 hY1
      clear e1 e2
      have hH0 := pow2_pos j
      have hH1 : (2 : Int) ^ j ≤ 524288 := pow2_le (k := 19) (by omega)
      have hsq : (2 : Int) ^ j * 2 ^ j = 4 ^ j := by rw [← pow4_is, ← Int.pow_add]; congr 1; omega
      have hA1 : (4 : Int) ^ j ≤ 274877906944 := pow4_le (k := 19) (by omega)
      have hA0 := pow4_pos j
      have HO := Lib.hid hOR
      clear hOR
      generalize hHe : (2 : Int) ^ j = H at *
      obtain ⟨q, hq, q0, q3, b0, b1, b2, b3, hs⟩ := hix_step j X Y H hHe.symm hX0 hX1 hY0 hY1
      rw [hs] at HO
      clear hs
      have hnn := (hix_bd j _ _ (t_bd _ _ q H ⟨b0, b1, b2, b3⟩).1 (by rw [hHe]; exact (t_bd _ _ q H ⟨b0, b1, b2, b3⟩).2.1) (t_bd _ _ q H ⟨b0, b1, b2, b3⟩).2.2.1 (by rw [hHe]; exact (t_bd _ _ q H ⟨b0, b1, b2, b3⟩).2.2.2)).1
      have htb := t_bd _ _ q H ⟨b0, b1, b2, b3⟩
      have HH := Lib.hid hHe
      clear hHe
      have hB : 0 ≤ q * H ∧ q * H ≤ 1572864 := by
        have h3 : q = 0 ∨ q = 1 ∨ q = 2 ∨ q = 3 := by omega
        rcases h3 with h3 | h3 | h3 | h3 <;> rw [h3] <;> omega
      have hD : q * H * H = q * 4 ^ j := by rw [Int.mul_assoc, hsq]
      clear hsq
      have hD1 : 0 ≤ q * 4 ^ j ∧ q * 4 ^ j ≤ 824633720832 := by
        have h3 : q = 0 ∨ q = 1 ∨ q = 2 ∨ q = 3 := by omega
        rcases h3 with h3 | h3 | h3 | h3 <;> rw [h3] <;> omega
      have hsum : O + q * 4 ^ j ≤ R := by have := HO.out; omega
      generalize hDe : q * 4 ^ j = D at *
      clear hDe hA1 hA0
      generalize hBe : q * H = B at *
      generalize hUe : cX q H = U at *
      generalize hVe : cY q H = V at *
      have HU := Lib.hid hUe
      have HV := Lib.hid hVe
      clear hUe hVe
      generalize hPe : X - U = P0 at *
      generalize hQe : Y - V = Q0 at *
      generalize hXe : tX P0 Q0 q H = X1 at *
      generalize hYe : tY P0 Q0 q H = Y1 at *
      have HX := Lib.hid hXe
      have HY := Lib.hid hYe
      clear hXe hYe
      have HQ := Lib.hid hq
      clear hq
      have c0 : wr.cell? ⟨w.heap.size, 0, none⟩ = some (.int .i64 X) := cell_of_block gr rfl
      have c1 : wr.cell? ⟨w.heap.size, 1, none⟩ = some (.int .i64 Y) := cell_of_block gr rfl
      go_wp2_with fail
      refine (quarter_any X Y H _).mono ?_
      rintro e w3 ⟨rfl, hb3⟩
      rw [HQ.out]
      have hbr3 := hbr.trans (hb3.mono hbr.size)
      have gr3 := (hb3.block _ (lt_of_some gr)).trans gr
      clear c0 c1 hb3
      go_wp2_with fail
      refine (corner_any q H _).mono ?_
      rintro e w4 ⟨rfl, hb4⟩
      rw [HU.out, HV.out]
      have hbr4 := hbr3.trans (hb4.mono hbr3.size)
      have gr4 := (hb4.block _ (lt_of_some gr3)).trans gr3
      have hz4 : w.heap.size < w4.heap.size := lt_of_some gr4
      clear hb4
      have c0 : w4.cell? ⟨w.heap.size, 0, none⟩ = some (.int .i64 X) := cell_of_block gr4 rfl
      have c1 : w4.cell? ⟨w.heap.size, 1, none⟩ = some (.int .i64 Y) := cell_of_block gr4 rfl
      have d0 : w4.frozen? ⟨w.heap.size, 0, none⟩ = false := free_of_block gr4
      have d1 : w4.frozen? ⟨w.heap.size, 1, none⟩ = false := free_of_block gr4
      clear hbr hbr3 gr gr3 g0 hb
      go_wp2_with fail
      refine (hturned_any P0 Q0 q H _ ⟨by omega, by omega⟩ ⟨by omega, by omega⟩ ⟨by omega, by omega⟩).mono ?_
      rintro e w5 ⟨rfl, hb5⟩
      rw [HX.out, HY.out]
      have hbr5 := (hbr4.alloc (hbr4.size) (.cells #[.int .i64 U, .int .i64 V] 23)).trans (hb5.mono (by simp; omega))
      have gr5 := (hb5.block _ (by simp; omega)).trans (heap_alloc_lt gr4)
      clear hb5 c0 c1 d0 d1 hbr4 gr4
      have d0 : w5.frozen? ⟨w.heap.size, 0, none⟩ = false := free_of_block gr5
      have d1 : w5.frozen? ⟨w.heap.size, 1, none⟩ = false := free_of_block gr5
      have c0 : w5.cell? ⟨w.heap.size, 0, none⟩ = some (.int .i64 X) := cell_of_block gr5 rfl
      have c1 : w5.cell? ⟨w.heap.size, 1, none⟩ = some (.int .i64 Y) := cell_of_block gr5 rfl
      go_wp2_with fail
      go_roundw
      case rel => exact ⟨j, X1, Y1, O + D, by omega, congrArg (Value.int .i64) (by rw [HH.out]), rfl, by omega, by have := HO.out; omega, htb.1, by rw [HH.out]; exact htb.2.1, htb.2.2.1, by rw [HH.out]; exact htb.2.2.2, (hbr5.setCell (by simp) _).setCell (by simp) _, set_block (set_block gr5)⟩
      case measure => simp [intOf]; omega

theorem hindex_yes (k : Nat) (x y : Int) (w : World) (hk : k ≤ 20) (hx0 : 0 ≤ x) (hx1 : x < 2 ^ k) (hy0 : 0 ≤ y) (hy1 : y < 2 ^ k) :
    Calls Try.prog 24 #[.int .i64 k, .agg #[.int .i64 x, .int .i64 y]] w fun e w' => e = .returned (.tuple #[.int .i64 (hix k x y), .int .i64 0]) ∧ Below w.heap.size w w' :=
  hindex_at k x y (2 ^ k) _ w hk (wrap2 hk) (Lib.hid rfl) (pow2_pos k) (pow2_20 hk) (Lib.hid rfl) (Int.lt_of_lt_of_le (hix_bd k x y hx0 hx1 hy0 hy1).2 (pow4_20 hk)) hx0 hx1 hy0 hy1
    (Lib.hid (by unfold insB insM; rw [Int.toNat_natCast]; simp [hx0, hx1, hy0, hy1]; omega))

end Go.Proofs.Ytnpilmjpinmgfaa
