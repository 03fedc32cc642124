/-
  THE WALK OF hilb.Point: the square of an index. CONDITIONS: the order is from 0 to 20 and the index fits (else: ErrArg).
-/
import Derived.Test.YtnpilmjpinmgfaaHPlain2
import Derived.Lib.Hide
namespace Go.Proofs.Ytnpilmjpinmgfaa
open Go.RowKit Go.Proofs.Ytnpilmjpinmgfaa.Tame
set_option maxHeartbeats 400000
theorem and_three (q : Int) : bits .and .i64 q 3 = q % 4 := by
  show IntKind.i64.wrap ((BitVec.ofInt 64 q &&& BitVec.ofInt 64 3).toNat : Int) = _
  have e3 : (BitVec.ofInt 64 3).toNat = 2 ^ 2 - 1 := by decide
  rw [BitVec.toNat_and, e3, Nat.and_two_pow_sub_one_eq_mod, BitVec.toNat_ofInt]
  have : ((q % ((2 ^ 64 : Nat) : Int)).toNat : Int) = q % 18446744073709551616 := by
    have : 0 ≤ q % 18446744073709551616 := Int.emod_nonneg _ (by decide)
    simp only [Nat.reducePow, Int.cast_ofNat_Int]
    omega
  rw [IntKind.wrap_i64]
  generalize hm : (q % ((2 ^ 64 : Nat) : Int)).toNat = m at *
  omega

theorem t_bd (x y q m : Int) (h : 0 ≤ x ∧ x < m ∧ 0 ≤ y ∧ y < m) : 0 ≤ tX x y q m ∧ tX x y q m < m ∧ 0 ≤ tY x y q m ∧ tY x y q m < m := by
  unfold tX tY
  by_cases h0 : q = 0
  · rw [if_pos h0, if_pos h0]; omega
  · by_cases h3 : q = 3
    · rw [if_neg h0, if_pos h3, if_neg h0, if_pos h3]; omega
    · rw [if_neg h0, if_neg h3, if_neg h0, if_neg h3]; omega
theorem c_bd (q m : Int) (h : 0 < m) : 0 ≤ cX q m ∧ cX q m ≤ m ∧ 0 ≤ cY q m ∧ cY q m ≤ m := by
  unfold cX cY
  by_cases h1 : q = 1
  · subst h1; simp; omega
  · by_cases h2 : q = 2
    · subst h2; simp; omega
    · by_cases h3 : q = 3
      · subst h3; simp; omega
      · simp [h1, h2, h3]; omega
theorem pow2_le {j k : Nat} (h : j ≤ k) : (2 : Int) ^ j ≤ 2 ^ k := by
  have := Nat.pow_le_pow_right (n := 2) (by decide) h
  have := Int.ofNat_le.2 this
  simpa using this
theorem pow2_lt {j k : Nat} (h : (2 : Int) ^ j < 2 ^ k) : j < k := by
  rcases Nat.lt_or_ge j k with h' | h'
  · exact h'
  · have := pow2_le h'; omega
theorem pow2_inj {j k : Nat} (h : (2 : Int) ^ j = 2 ^ k) : j = k := by
  rcases Nat.lt_trichotomy j k with h' | h' | h'
  · have := pow2_le (show j + 1 ≤ k from h'); have h2 := pow2_pos j; rw [Int.pow_succ] at this; omega
  · exact h'
  · have := pow2_le (show k + 1 ≤ j from h'); have h2 := pow2_pos k; rw [Int.pow_succ] at this; omega
theorem pt (k i M N : Int) (w : World) (hk0 : 0 ≤ k) (hk1 : k ≤ 20) (hi : 0 ≤ i) (hN : wrap64 (2 ^ (2 * k).toNat) = N) (hM : wrap64 (2 ^ k.toNat) = M) (hi1 : i < N) (hM' : Hid (M = 2 ^ k.toNat)) (hMM : M ≤ 1048576) :
    Calls Try.prog 13 #[.int .i64 k, .int .i64 i] w fun e w' => e = .returned (.tuple #[.agg #[.int .i64 (hp k.toNat i).1, .int .i64 (hp k.toNat i).2], .int .i64 0]) ∧ Below w.heap.size w w' := by
  go_enter Try.func13, Try.ntmps13
  go_wp2
  go_loopw [1, 7] (fun s1 s7 wr => ∃ j : Nat, j ≤ k.toNat ∧ s1 = .int .i64 (i / 4 ^ j) ∧ s7 = .int .i64 (2 ^ j) ∧ Below w.heap.size w wr ∧ w.heap.size + 2 ≤ wr.heap.size ∧ wr.heap[w.heap.size]? = some (.cells #[.int .i64 0, .int .i64 0] 23) ∧ wr.heap[w.heap.size + 1]? = some (.cells #[.int .i64 (hp j i).1, .int .i64 (hp j i).2] 23)) (fun _ s7 _ => (M - intOf s7).toNat)
  case atStart => exact ⟨0, Nat.zero_le _, by simp, rfl, ((Below.refl _ _).alloc (Nat.le_refl _) _).alloc (by simp) _, by simp, heap_alloc_lt (heap_alloc_is rfl), heap_alloc_is (by simp)⟩
  case round =>
    obtain ⟨j, hj, rfl, rfl, hb, hz, g0, g1⟩ := hrel
    have ha : 0 ≤ i / 4 ^ j := Int.ediv_nonneg hi (Int.le_of_lt (pow4_pos j))
    have hm := pow2_pos j
    have hbd := hp_bd j i
    generalize hae : i / 4 ^ j = a at *
    generalize hme : (2 : Int) ^ j = m at *
    generalize hpe : hp j i = p at *
    have Hae := Lib.hid hae
    have Hme := Lib.hid hme
    have Hpe := Lib.hid hpe
    clear hae hme hpe
    by_cases hlt : m < M
    · have c0 : wr.cell? ⟨w.heap.size + 1, 0, none⟩ = some (.int .i64 p.1) := cell_of_block g1 rfl
      have c1 : wr.cell? ⟨w.heap.size + 1, 1, none⟩ = some (.int .i64 p.2) := cell_of_block g1 rfl
      have d0 : wr.frozen? ⟨w.heap.size + 1, 0, none⟩ = false := free_of_block g1
      have d1 : wr.frozen? ⟨w.heap.size + 1, 1, none⟩ = false := free_of_block g1
      have hq := and_three a
      have hq3 : 0 ≤ a % 4 ∧ a % 4 ≤ 3 := by omega
      generalize hqe : a % 4 = q at *
      have Hqe := Lib.hid hqe
      clear hqe
      go_wp2_with fail
      refine (hturned_any p.1 p.2 q m wr ⟨by omega, by omega⟩ ⟨by omega, by omega⟩ ⟨by omega, by omega⟩).mono ?_
      rintro e w1 ⟨rfl, hb1⟩
      have g1' : w1.heap[w.heap.size + 1]? = some (.cells #[.int .i64 p.1, .int .i64 p.2] 23) := (hb1.block _ (lt_of_some g1)).trans g1
      have g0' : w1.heap[w.heap.size]? = some (.cells #[.int .i64 0, .int .i64 0] 23) := (hb1.block _ (lt_of_some g0)).trans g0
      clear c0 c1 d0 d1
      have c0 : w1.cell? ⟨w.heap.size + 1, 0, none⟩ = some (.int .i64 p.1) := cell_of_block g1' rfl
      have c1 : w1.cell? ⟨w.heap.size + 1, 1, none⟩ = some (.int .i64 p.2) := cell_of_block g1' rfl
      have d0 : w1.frozen? ⟨w.heap.size + 1, 0, none⟩ = false := free_of_block g1'
      have d1 : w1.frozen? ⟨w.heap.size + 1, 1, none⟩ = false := free_of_block g1'
      generalize hXe : tX p.1 p.2 q m = X
      generalize hYe : tY p.1 p.2 q m = Y
      have hXY : 0 ≤ X ∧ X < m ∧ 0 ≤ Y ∧ Y < m := by rw [← hXe, ← hYe]; exact t_bd _ _ _ _ hbd
      have HXe := Lib.hid hXe
      have HYe := Lib.hid hYe
      clear hXe hYe
      go_wp2_with fail
      refine (corner_any q m _).mono ?_
      rintro e w2 ⟨rfl, hb2⟩
      have G1 : w2.heap[w.heap.size + 1]? = some (.cells #[.int .i64 X, .int .i64 Y] 23) := (hb2.block _ (by simp; exact lt_of_some g1')).trans (set_block (set_block g1'))
      have G0 : w2.heap[w.heap.size]? = some (.cells #[.int .i64 0, .int .i64 0] 23) := (hb2.block _ (by simp; exact lt_of_some g0')).trans (set_other (set_other g0' (by omega)) (by omega))
      have hb' : Below w.heap.size w w2 := hb.trans ((((hb1.mono (by omega)).setCell (by simp) _).setCell (by simp) _).trans (hb2.mono (by simp; exact Nat.le_of_lt (lt_of_some g0'))))
      have hz' : w.heap.size + 2 ≤ w2.heap.size := lt_of_some G1
      have hcb := c_bd q m hm
      clear c0 c1 d0 d1 g0 g1 g0' g1' hb hz hb1 hb2 w1
      generalize hXc : cX q m = U at *
      generalize hYc : cY q m = V at *
      have HXc := Lib.hid hXc
      have HYc := Lib.hid hYc
      clear hXc hYc
      have c0 : w2.cell? ⟨w.heap.size + 1, 0, none⟩ = some (.int .i64 X) := cell_of_block G1 rfl
      have c1 : w2.cell? ⟨w.heap.size + 1, 1, none⟩ = some (.int .i64 Y) := cell_of_block G1 rfl
      have d0 : w2.frozen? ⟨w.heap.size + 1, 0, none⟩ = false := free_of_block G1
      have d1 : w2.frozen? ⟨w.heap.size + 1, 1, none⟩ = false := free_of_block G1
      have hz2 : w.heap.size + 1 < w2.heap.size := hz'
      go_wp2_with fail
      go_roundw
      case rel =>
        have hjk : j < k.toNat := pow2_lt (by rw [Hme.out, ← hM'.out]; exact hlt)
        refine ⟨j + 1, hjk, congrArg (Value.int .i64) ?_, congrArg (Value.int .i64) ?_, (((hb'.setCell (by simp) _).setCell (by simp) _).alloc (by simp; omega) _), by simp; omega, heap_alloc_lt (set_other (set_other G0 (by omega)) (by omega)), ?_⟩
        · rw [← div_step, Hae.out]
        · rw [Int.pow_succ, Hme.out]
        · rw [hp_succ, Hpe.out, Hae.out, Hme.out, Hqe.out, HXe.out, HYe.out, HXc.out, HYc.out]
          exact heap_alloc_lt (set_block (set_block G1))
      case measure => simp [intOf]; omega
    · have hjk : j = k.toNat := by
        have h1 := pow2_le hj
        rw [Hme.out, ← hM'.out] at h1
        exact pow2_inj (by rw [Hme.out, ← hM'.out]; omega)
      have HJ := Lib.hid hjk
      clear hjk
      have c0 : wr.cell? ⟨w.heap.size + 1, 0, none⟩ = some (.int .i64 p.1) := cell_of_block g1 rfl
      have c1 : wr.cell? ⟨w.heap.size + 1, 1, none⟩ = some (.int .i64 p.2) := cell_of_block g1 rfl
      have d0 : wr.frozen? ⟨w.heap.size, 0, none⟩ = false := free_of_block g0
      have d1 : wr.frozen? ⟨w.heap.size, 1, none⟩ = false := free_of_block g0
      have e0 : wr.cell? ⟨w.heap.size, 0, none⟩ = some (.int .i64 0) := cell_of_block g0 rfl
      have e1 : wr.cell? ⟨w.heap.size, 1, none⟩ = some (.int .i64 0) := cell_of_block g0 rfl
      go_wp2_with fail
      exact bodyPost_ret (v := .tuple #[.agg #[.int .i64 p.1, .int .i64 p.2], .int .i64 0]) (by simp [results, Try.results13, go_sem, c0, c1, e0, e1]) rfl ⟨by rw [← HJ.out, Hpe.out], (hb.setCell (by simp) _).setCell (by simp) _⟩

end Go.Proofs.Ytnpilmjpinmgfaa
