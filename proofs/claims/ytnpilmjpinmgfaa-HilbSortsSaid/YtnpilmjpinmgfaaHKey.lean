/-
  WALKS OF hilb.Key AND OF THE DOCUMENT's Key; AND THAT A SQUARE's INDEX HAS THAT SQUARE. CONDITIONS: stated.
-/
import Derived.Test.YtnpilmjpinmgfaaHIndex
import Derived.Test.YtnpilmjpinmgfaaMay
import Derived.Lib.Hide
namespace Go.Proofs.Ytnpilmjpinmgfaa
open Go.RowKit Go.Proofs.Ytnpilmjpinmgfaa.Tame
set_option maxHeartbeats 400000

theorem hp_hix (k : Nat) : ∀ x y : Int, 0 ≤ x → x < 2 ^ k → 0 ≤ y → y < 2 ^ k → hp k (hix k x y) = (x, y) := by
  induction k with
  | zero => intro x y h0 h1 h2 h3; simp at h1 h3; simp [hp]; omega
  | succ k ih =>
    intro x y h0 h1 h2 h3
    have e : (2 : Int) ^ (k + 1) = 2 ^ k + 2 ^ k := by rw [Int.pow_succ]; omega
    rw [e] at h1 h3
    obtain ⟨q, hq, q0, q3, b0, b1, b2, b3, hs⟩ := hix_step k x y (2 ^ k) rfl h0 h1 h2 h3
    have htb := t_bd _ _ q (2 ^ k) ⟨b0, b1, b2, b3⟩
    have hr := hix_bd k _ _ htb.1 htb.2.1 htb.2.2.1 htb.2.2.2
    have hi := ih _ _ htb.1 htb.2.1 htb.2.2.1 htb.2.2.2
    rw [hs]
    generalize hre : hix k _ _ = r at *
    have h4 := pow4_pos k
    have d : (q * 4 ^ k + r) / 4 ^ k % 4 = q := by
      rw [Int.add_comm, Int.add_mul_ediv_right _ _ (Int.ne_of_gt h4), Int.ediv_eq_zero_of_lt hr.1 hr.2]; omega
    have m : hp k (q * 4 ^ k + r) = hp k r := by
      rw [← hp_mod k (q * 4 ^ k + r), Int.add_comm, Int.add_mul_emod_self_right, hp_mod]
    rw [hp_succ, d, m, hi]
    have hm := pow2_pos k
    generalize (2 : Int) ^ k = M at *
    have hq4 : q = 0 ∨ q = 1 ∨ q = 2 ∨ q = 3 := by omega
    rcases hq4 with h | h | h | h <;> subst h <;> simp [tX, tY, cX, cY] <;> omega

/-- A point's part as a square's. -/
def partI (n : Int) : Int := (n + 536870912) / 2048
theorem partI_bd {n : Int} (h : okI n) : 0 ≤ partI n ∧ partI n < 1048576 := by
  obtain ⟨h1, h2⟩ := h
  unfold partI
  omega

theorem key1_any (n : Int) (w : World) (h : okI n) : Calls Try.prog 33 #[.int .i64 n] w fun e w' => e = .returned (.int .i64 (partI n)) ∧ Below w.heap.size w w' := by
  obtain ⟨h1, h2⟩ := h
  unfold partI
  have h3 : (n + 536870912) / 2048 ≤ 1048575 := by omega
  go_enter Try.func33, Try.ntmps33
  go_wp2
  go_ret
  exact ⟨rfl, Below.refl _ _⟩
theorem part_any (n : Int) (w : World) (h : okI n) : Calls Try.prog 34 #[.int .i64 n] w fun e w' => e = .returned (.int .i64 (partI n)) ∧ Below w.heap.size w w' := by
  obtain ⟨h1, h2⟩ := h
  unfold partI
  have h3 : (n + 536870912) / 2048 ≤ 1048575 := by omega
  go_enter Try.func34, Try.ntmps34
  go_wp2
  go_ret
  exact ⟨rfl, Below.refl _ _⟩


theorem refindex20 (x y : Int) (w : World) (h : 0 ≤ x ∧ x < 1048576) (h' : 0 ≤ y ∧ y < 1048576) :
    Calls Try.prog 16 #[.int .i64 20, .agg #[.int .i64 x, .int .i64 y]] w fun e w' => e = .returned (.int .i64 (hix 20 x y)) ∧ Below w.heap.size w w' :=
  refindex_any 20 x y w (by omega) h.1 h.2 h'.1 h'.2
theorem hindex20 (x y : Int) (w : World) (h : 0 ≤ x ∧ x < 1048576) (h' : 0 ≤ y ∧ y < 1048576) :
    Calls Try.prog 24 #[.int .i64 20, .agg #[.int .i64 x, .int .i64 y]] w fun e w' => e = .returned (.tuple #[.int .i64 (hix 20 x y), .int .i64 0]) ∧ Below w.heap.size w w' :=
  hindex_yes 20 x y w (by omega) h.1 h.2 h'.1 h'.2


theorem refkey_any (x y : Int) (w : World) (hx : okI x) (hy : okI y) : Calls Try.prog 26 #[.agg #[.int .i64 x, .int .i64 y]] w fun e w' => e = .returned (.int .i64 (hix 20 (partI x) (partI y))) ∧ Below w.heap.size w w' := by
  have px := partI_bd hx
  have py := partI_bd hy
  go_enter Try.func26, Try.ntmps26
  go_upto_region 1 with (fail)
  refine draws_hid (by kernel_rfl) (by kernel_rfl) (by kernel_rfl) (fun W hW ops hops => ?_)
  have hb : Below w.heap.size w W := by rw [hW]; go_grown
  have hz : w.heap.size + 1 ≤ W.heap.size := by rw [hW]; simp
  have g0 : W.heap[w.heap.size]? = some (.cells #[.int .i64 x, .int .i64 y] 23) := by rw [hW]; exact heap_alloc_is (rfl)
  clear hW
  clear hops
  have f0 : ∀ xl : Later W [], xl.w.cell? ⟨w.heap.size, 0, none⟩ = some (.int .i64 x) := fun xl => cell_of_block (Later.at0 g0 xl) rfl
  have f1 : ∀ xl : Later W [], xl.w.cell? ⟨w.heap.size, 1, none⟩ = some (.int .i64 y) := fun xl => cell_of_block (Later.at0 g0 xl) rfl
  repeat (refine walkT_step (fun K hK => ?_); go_simp; first | (refine hK _ _ ?_; clear hK K) | (refine ⟨_, fun x => part_any _ _ hx, ?_⟩; refine hK _ _ ?_; clear hK K) | (refine ⟨_, fun x => part_any _ _ hy, ?_⟩; refine hK _ _ ?_; clear hK K) | (refine ⟨_, fun x => refindex20 _ _ _ px py, ?_⟩; refine hK _ _ ?_; clear hK K))
  refine walkT_nil ?_
  intro w1 hc
  replace g0 := hc.at0 g0
  replace hb := hb.trans (hc.below.mono hb.size)
  replace hz := Nat.le_trans hz hc.kept.size
  clear hc f0 f1 W
  go_wp2
  go_ret
  exact ⟨rfl, hb⟩


theorem hkey_yes (x y : Int) (w : World) (hx : okI x) (hy : okI y) : Calls Try.prog 25 #[.agg #[.int .i64 x, .int .i64 y]] w fun e w' => e = .returned (.tuple #[.int .i64 (hix 20 (partI x) (partI y)), .int .i64 0]) ∧ Below w.heap.size w w' := by
  have px := partI_bd hx
  have py := partI_bd hy
  have hx' := hx
  have hy' := hy
  obtain ⟨h1, h2⟩ := hx'
  obtain ⟨h3, h4⟩ := hy'
  go_enter Try.func25, Try.ntmps25
  go_upto_region 4 with (fail)
  refine draws_hid (by kernel_rfl) (by kernel_rfl) (by kernel_rfl) (fun W hW ops hops => ?_)
  have hb : Below w.heap.size w W := by rw [hW]; go_grown
  have hz : w.heap.size + 1 ≤ W.heap.size := by rw [hW]; simp
  have g0 : W.heap[w.heap.size]? = some (.cells #[.int .i64 x, .int .i64 y] 23) := by rw [hW]; exact heap_alloc_is (rfl)
  clear hW
  clear hops
  have f0 : ∀ xl : Later W [], xl.w.cell? ⟨w.heap.size, 0, none⟩ = some (.int .i64 x) := fun xl => cell_of_block (Later.at0 g0 xl) rfl
  have f1 : ∀ xl : Later W [], xl.w.cell? ⟨w.heap.size, 1, none⟩ = some (.int .i64 y) := fun xl => cell_of_block (Later.at0 g0 xl) rfl
  repeat (refine walkT_step (fun K hK => ?_); go_simp; first | (refine hK _ _ ?_; clear hK K) | (refine ⟨_, fun x => key1_any _ _ hx, ?_⟩; refine hK _ _ ?_; clear hK K) | (refine ⟨_, fun x => key1_any _ _ hy, ?_⟩; refine hK _ _ ?_; clear hK K) | (refine ⟨_, fun x => hindex20 _ _ _ px py, ?_⟩; refine hK _ _ ?_; clear hK K))
  refine walkT_nil ?_
  intro w1 hc
  replace g0 := hc.at0 g0
  replace hb := hb.trans (hc.below.mono hb.size)
  replace hz := Nat.le_trans hz hc.kept.size
  clear hc f0 f1 W
  go_wp2
  go_ret2
  exact ⟨rfl, hb⟩


theorem hkey_no (x y : Int) (w : World) (h : ¬ (okI x ∧ okI y)) : Calls Try.prog 25 #[.agg #[.int .i64 x, .int .i64 y]] w fun e w' => e = .returned (.tuple #[.int .i64 0, .int .i64 6]) ∧ Below w.heap.size w w' := by
  unfold okI at h
  by_cases h0 : x < -536870912
  ·
    clear h
    go_enter Try.func25, Try.ntmps25
    go_wp2
    go_ret2
    exact ⟨rfl, by go_grown⟩
  ·
    by_cases h1 : 536870912 < x
    ·
      clear h
      go_enter Try.func25, Try.ntmps25
      go_wp2
      go_ret2
      exact ⟨rfl, by go_grown⟩
    ·
      by_cases h2 : y < -536870912
      ·
        clear h
        go_enter Try.func25, Try.ntmps25
        go_wp2
        go_ret2
        exact ⟨rfl, by go_grown⟩
      ·
        have h3 : 536870912 < y := by omega
        clear h
        go_enter Try.func25, Try.ntmps25
        go_wp2
        go_ret2
        exact ⟨rfl, by go_grown⟩

end Go.Proofs.Ytnpilmjpinmgfaa
