/-
  WALKS OF THE LAW OF THE CURVE (HilbPoints): each index has one square, and squares one behind the other are near. CONDITIONS: none on the input (each case has its own theorem).
-/
import Derived.Test.YtnpilmjpinmgfaaHIndex
import Derived.Lib.Hide
namespace Go.Proofs.Ytnpilmjpinmgfaa
open Go.RowKit Go.Proofs.Ytnpilmjpinmgfaa.Tame
set_option maxHeartbeats 400000

theorem hawake_any (w : World) : Calls Try.prog 14 #[] w fun e w' => e = .returned (.bool true) ∧ Below w.heap.size w w' := by
  have h1 := fun w => hpoint_yes 1 2 w (by omega) (by omega) (by decide)
  have e1 : hp 1 2 = (1, 1) := by decide
  rw [e1] at h1
  have h2 := fun w => hindex_yes 1 1 0 w (by omega) (by omega) (by decide) (by omega) (by decide)
  have e2 : hix 1 1 0 = 3 := by decide
  rw [e2] at h2
  have H1 := Lib.hid h1
  have H2 := Lib.hid h2
  clear h1 h2 e1 e2
  go_enter Try.func14, Try.ntmps14
  go_wp2_with fail
  refine (H1.out _).mono ?_
  rintro e w1 ⟨rfl, hb1⟩
  go_wp2_with fail
  refine (H2.out _).mono ?_
  rintro e w2 ⟨rfl, hb2⟩
  have hb := hb1.trans (((Below.refl w1.heap.size w1).alloc (Nat.le_refl _) (.cells #[.int .i64 1, .int .i64 1] 23) |>.mono hb1.size))
  have hb' := hb.trans (hb2.mono (by simp; have := hb1.size; omega))
  have g : w2.heap[w1.heap.size]? = some (.cells #[.int .i64 1, .int .i64 1] 23) := (hb2.block _ (by simp)).trans (heap_alloc_is rfl)
  have c0 : w2.cell? ⟨w1.heap.size, 0, none⟩ = some (.int .i64 1) := cell_of_block g rfl
  have c1 : w2.cell? ⟨w1.heap.size, 1, none⟩ = some (.int .i64 1) := cell_of_block g rfl
  go_wp2_with fail
  go_ret
  exact ⟨rfl, hb'⟩

theorem hilbpoints_no (k i N : Int) (w : World) (hN : wrap64 (2 ^ (k + k).toNat) = N) (h : k < 0 ∨ 20 < k ∨ i < 0 ∨ N ≤ i) :
    Calls Try.prog 4 #[.int .i64 k, .int .i64 i] w fun e w' => e = .returned (.bool true) ∧ Below w.heap.size w w' := by
  have h1 := fun w => hpoint_no k i N w (by rw [show 2 * k = k + k by omega]; exact hN) h
  have H1 := Lib.hid h1
  clear h1
  have fin : Hid (∀ w1 : World, Below w.heap.size w w1 → Below w.heap.size w (w1.alloc (.cells #[.int .i64 0, .int .i64 0] 23))) := Lib.hid fun w1 hb1 => hb1.alloc hb1.size _
  by_cases a : k < 0
  · clear h
    go_enter Try.func4, Try.ntmps4
    go_wp2_with fail
    refine (H1.out _).mono ?_
    rintro e w1 ⟨rfl, hb1⟩
    go_wp2_with fail
    refine (hawake_any _).mono ?_
    rintro e w2 ⟨rfl, hb2⟩
    go_wp2_with fail
    go_ret
    exact ⟨rfl, (fin.out _ hb1).trans (hb2.mono (by simp; have := hb1.size; omega))⟩
  · by_cases b : 20 < k
    · clear h
      go_enter Try.func4, Try.ntmps4
      go_wp2_with fail
      refine (H1.out _).mono ?_
      rintro e w1 ⟨rfl, hb1⟩
      go_wp2_with fail
      refine (hawake_any _).mono ?_
      rintro e w2 ⟨rfl, hb2⟩
      go_wp2_with fail
      go_ret
      exact ⟨rfl, (fin.out _ hb1).trans (hb2.mono (by simp; have := hb1.size; omega))⟩
    · by_cases c : i < 0
      · clear h
        go_enter Try.func4, Try.ntmps4
        go_wp2_with fail
        refine (H1.out _).mono ?_
        rintro e w1 ⟨rfl, hb1⟩
        go_wp2_with fail
        refine (hawake_any _).mono ?_
        rintro e w2 ⟨rfl, hb2⟩
        go_wp2_with fail
        go_ret
        exact ⟨rfl, (fin.out _ hb1).trans (hb2.mono (by simp; have := hb1.size; omega))⟩
      · have d : N ≤ i := by omega
        clear h
        go_enter Try.func4, Try.ntmps4
        go_wp2_with fail
        refine (H1.out _).mono ?_
        rintro e w1 ⟨rfl, hb1⟩
        go_wp2_with fail
        refine (hawake_any _).mono ?_
        rintro e w2 ⟨rfl, hb2⟩
        go_wp2_with fail
        go_ret
        exact ⟨rfl, (fin.out _ hb1).trans (hb2.mono (by simp; have := hb1.size; omega))⟩

set_option maxHeartbeats 1000000 in
theorem hilbpoints_at (k : Nat) (i N x y : Int) (w : World) (hk : k ≤ 20) (hN : wrap64 (2 ^ (k + k)) = N) (hN4 : Hid (N = 4 ^ k)) (hN1 : N ≤ 1099511627776) (h0 : 0 ≤ i) (h1 : i < N) (hp0 : Hid (hp k i = (x, y)))
    (hin : Hid (insB k x y = true)) (_hx : 0 ≤ x ∧ x < 1048576) (_hy : 0 ≤ y ∧ y < 1048576) :
    Calls Try.prog 4 #[.int .i64 k, .int .i64 i] w fun e w' => e = .returned (.bool true) ∧ Below w.heap.size w w' := by
  have i1 := refindex_any k x y
  have P1 := fun w => hpoint_yes k i w hk h0 (by rw [← hN4.out]; exact h1)
  rw [hp0.out] at P1
  have H1 := Lib.hid P1
  have I1 : Hid (∀ w, Calls Try.prog 16 #[.int .i64 k, .agg #[.int .i64 x, .int .i64 y]] w fun e w' => e = .returned (.int .i64 i) ∧ Below w.heap.size w w') := Lib.hid fun w => by
    have hbd := hp_bd k i
    have e := hix_hp k i
    rw [hp0.out] at hbd e
    simp only at hbd e
    rw [Int.emod_eq_of_lt h0 (by rw [← hN4.out]; exact h1)] at e
    rw [← e]
    exact refindex_any k x y w hk hbd.1 hbd.2.1 hbd.2.2.1 hbd.2.2.2
  clear P1 i1
  by_cases hl : i + 1 < N
  · obtain ⟨dx, dy, x', y', hp1, hdx, hdy, hdd⟩ : ∃ dx dy x' y' : Int, hp k (i + 1) = (x', y') ∧ x' - x = dx ∧ y' - y = dy ∧ ((dx = 0 ∧ dy = 1) ∨ (dx = 0 ∧ dy = -1) ∨ (dx = 1 ∧ dy = 0) ∨ (dx = -1 ∧ dy = 0)) := by
      have n := hp_near k i h0 (by rw [← hN4.out]; exact hl)
      rw [hp0.out] at n
      refine ⟨_, _, _, _, rfl, rfl, rfl, ?_⟩
      unfold near at n
      simp only at n
      omega
    have P1 := fun w => hpoint_yes k (i + 1) w hk (by omega) (by rw [← hN4.out]; exact hl)
    rw [hp1] at P1
    have H2 := Lib.hid P1
    have hx' : x' = x + dx := by omega
    have hy' : y' = y + dy := by omega
    clear P1 hp1 hdx hdy
    have hdx : IntKind.i64.wrap (x + dx - x) = dx := by rw [show x + dx - x = dx by omega]; exact IntWalk.i64_in _ (by omega)
    have hdy : IntKind.i64.wrap (y + dy - y) = dy := by rw [show y + dy - y = dy by omega]; exact IntWalk.i64_in _ (by omega)
    subst hx' hy'
    have hb1 : (i + 1 == N) = false := beq_eq_false_iff_ne.2 (by omega)
    rcases hdd with ⟨rfl, rfl⟩ | ⟨rfl, rfl⟩ | ⟨rfl, rfl⟩ | ⟨rfl, rfl⟩
    all_goals
      generalize hX : x + _ = X at *
      generalize hY : y + _ = Y at *
      clear hX hY
      go_enter Try.func4, Try.ntmps4
      go_wp2_with fail
      refine (H1.out _).mono ?_
      rintro e w1 ⟨rfl, hb1⟩
      have hz1 := hb1.size
      go_wp2_with fail
      refine (refinside_any k x y _).mono ?_
      rintro e w2 ⟨rfl, hb2⟩
      rw [hin.out]
      have g2 : w2.heap[w1.heap.size]? = some (.cells #[.int .i64 x, .int .i64 y] 23) := (hb2.block _ (by simp)).trans (heap_alloc_is rfl)
      have hw2 := (hb1.alloc hb1.size (.cells #[.int .i64 x, .int .i64 y] 23)).trans (hb2.mono (by simp; omega))
      clear hb2 hb1
      have c0 : w2.cell? ⟨w1.heap.size, 0, none⟩ = some (.int .i64 x) := cell_of_block g2 rfl
      have c1 : w2.cell? ⟨w1.heap.size, 1, none⟩ = some (.int .i64 y) := cell_of_block g2 rfl
      go_wp2_with fail
      refine (I1.out _).mono ?_
      rintro e w3 ⟨rfl, hb3⟩
      have hw3 := hw2.trans (hb3.mono hw2.size)
      have g3 := (hb3.block _ (lt_of_some g2)).trans g2
      clear hb3 c0 c1 g2
      go_wp2_with fail
      refine (H2.out _).mono ?_
      rintro e w4 ⟨rfl, hb4⟩
      have hw4 := hw3.trans (hb4.mono hw3.size)
      have g4 := (hb4.block _ (lt_of_some g3)).trans g3
      clear hb4 g3 hw3 hw2
      go_upto_region 9 with (fail)
      refine draws_hid (by kernel_rfl) (by kernel_rfl) (by kernel_rfl) (fun W hW ops hops => ?_)
      have gp : W.heap[w1.heap.size]? = some (.cells #[.int .i64 x, .int .i64 y] 23) := by rw [hW]; exact heap_alloc_lt g4
      have gq : W.heap[w4.heap.size]? = some (.cells #[.int .i64 X, .int .i64 Y] 23) := by rw [hW]; exact heap_alloc_is rfl
      have hbW : Below w.heap.size w W := by rw [hW]; exact hw4.alloc hw4.size _
      clear hW hops
      have f0 : ∀ xl : Later W [], xl.w.cell? ⟨w1.heap.size, 0, none⟩ = some (.int .i64 x) := fun xl => cell_of_block (Later.at0 gp xl) rfl
      have f1 : ∀ xl : Later W [], xl.w.cell? ⟨w1.heap.size, 1, none⟩ = some (.int .i64 y) := fun xl => cell_of_block (Later.at0 gp xl) rfl
      have f2 : ∀ xl : Later W [], xl.w.cell? ⟨w4.heap.size, 0, none⟩ = some (.int .i64 X) := fun xl => cell_of_block (Later.at0 gq xl) rfl
      have f3 : ∀ xl : Later W [], xl.w.cell? ⟨w4.heap.size, 1, none⟩ = some (.int .i64 Y) := fun xl => cell_of_block (Later.at0 gq xl) rfl
      repeat (refine walkT_step (fun K hK => ?_); go_simp; (refine hK _ _ ?_; clear hK K))
      refine walkT_nil ?_
      intro w5 hc
      have hw5 := hbW.trans (hc.below.mono hbW.size)
      clear f0 f1 f2 f3 hc
      go_wp2_with fail
      refine (hawake_any _).mono ?_
      rintro e w6 ⟨rfl, hb6⟩
      go_wp2_with fail
      go_ret
      exact ⟨rfl, hw5.trans (hb6.mono hw5.size)⟩
  · have hl' : i + 1 = N := by omega
    have HL := Lib.hid hl'
    have hb1 : (i + 1 == N) = true := by simp [hl']
    clear hl' hl
    go_enter Try.func4, Try.ntmps4
    go_wp2_with fail
    refine (H1.out _).mono ?_
    rintro e w1 ⟨rfl, hb1⟩
    have hz1 := hb1.size
    go_wp2_with fail
    refine (refinside_any k x y _).mono ?_
    rintro e w2 ⟨rfl, hb2⟩
    rw [hin.out]
    have g2 : w2.heap[w1.heap.size]? = some (.cells #[.int .i64 x, .int .i64 y] 23) := (hb2.block _ (by simp)).trans (heap_alloc_is rfl)
    have hw2 := (hb1.alloc hb1.size (.cells #[.int .i64 x, .int .i64 y] 23)).trans (hb2.mono (by simp; omega))
    clear hb2 hb1
    have c0 : w2.cell? ⟨w1.heap.size, 0, none⟩ = some (.int .i64 x) := cell_of_block g2 rfl
    have c1 : w2.cell? ⟨w1.heap.size, 1, none⟩ = some (.int .i64 y) := cell_of_block g2 rfl
    go_wp2_with fail
    refine (I1.out _).mono ?_
    rintro e w3 ⟨rfl, hb3⟩
    have hw3 := hw2.trans (hb3.mono hw2.size)
    clear hb3 c0 c1 g2
    go_wp2_with fail
    refine (hawake_any _).mono ?_
    rintro e w4 ⟨rfl, hb4⟩
    go_wp2_with fail
    go_ret
    exact ⟨rfl, hw3.trans (hb4.mono hw3.size)⟩
end Go.Proofs.Ytnpilmjpinmgfaa
