import Derived.Test.YtnpilmjpinmgfaaHPlain
namespace Go.Proofs.Ytnpilmjpinmgfaa
open Go.RowKit

theorem hp_mod (k : Nat) (i : Int) : hp k (i % 4 ^ k) = hp k i := by
  have key : ∀ (k n : Nat), k ≤ n → hp k (i % 4 ^ n) = hp k i := by
    intro k
    induction k with
    | zero => intro n _; rfl
    | succ k ih =>
      intro n hn
      have e : i % 4 ^ n / 4 ^ k % 4 = i / 4 ^ k % 4 := by
        obtain ⟨m, rfl⟩ : ∃ m, n = k + (m + 1) := ⟨n - k - 1, by omega⟩
        have h1 := Int.emod_add_mul_ediv i (4 ^ (k + (m + 1)))
        have h2 : (4 : Int) ^ (k + (m + 1)) = 4 ^ k * (4 ^ m * 4) := by rw [Int.pow_add, Int.pow_succ]
        rw [h2] at h1 ⊢
        generalize hq : i / (4 ^ k * (4 ^ m * 4)) = q at h1
        have h0 : (4 : Int) ^ k * (4 ^ m * 4) * q = 4 ^ k * (4 * (4 ^ m * q)) := by ac_rfl
        have h3 : i = i % (4 ^ k * (4 ^ m * 4)) + 4 ^ k * (4 * (4 ^ m * q)) := by rw [← h0]; exact h1.symm
        conv => rhs; rw [h3]
        rw [Int.add_mul_ediv_left _ _ (Int.ne_of_gt (pow4_pos k)), Int.add_mul_emod_self_left]
      rw [hp_succ, hp_succ, ih n (by omega), e]
  exact key k k (Nat.le_refl _)

theorem hp_zero (k : Nat) : hp k 0 = (0, 0) := by
  induction k with
  | zero => rfl
  | succ k ih =>
    rw [hp_succ, ih]
    have e : (0 : Int) / 4 ^ k % 4 = 0 := by simp
    rw [e]
    simp only [at0]
theorem hp_last (k : Nat) : hp k (4 ^ k - 1) = (2 ^ k - 1, 0) := by
  induction k with
  | zero => rfl
  | succ k ih =>
    have h4 := pow4_pos k
    have e1 : ((4 : Int) ^ (k + 1) - 1) / 4 ^ k % 4 = 3 := by
      have : ((4 : Int) ^ (k + 1) - 1) = (4 ^ k - 1) + 4 ^ k * 3 := by rw [Int.pow_succ]; omega
      rw [this, Int.add_mul_ediv_left _ _ (Int.ne_of_gt h4), Int.ediv_eq_zero_of_lt (by omega) (by omega)]; rfl
    have e2 : hp k (4 ^ (k + 1) - 1) = (2 ^ k - 1, 0) := by
      rw [← hp_mod]
      have : ((4 : Int) ^ (k + 1) - 1) % 4 ^ k = 4 ^ k - 1 := by
        have : ((4 : Int) ^ (k + 1) - 1) = (4 ^ k - 1) + 4 ^ k * 3 := by rw [Int.pow_succ]; omega
        rw [this, Int.add_mul_emod_self_left, Int.emod_eq_of_lt (by omega) (by omega)]
      rw [this, ih]
    rw [hp_succ, e1, e2]
    simp only [at3]
    rw [Int.pow_succ]
    ext <;> simp <;> omega

/-- Two squares that have a side in common. -/
def near (p q : Int × Int) : Prop := (p.1 = q.1 ∧ (p.2 = q.2 + 1 ∨ q.2 = p.2 + 1)) ∨ (p.2 = q.2 ∧ (p.1 = q.1 + 1 ∨ q.1 = p.1 + 1))

theorem hp_near (k : Nat) (i : Int) (h0 : 0 ≤ i) (h1 : i + 1 < 4 ^ k) : near (hp k i) (hp k (i + 1)) := by
  induction k generalizing i with
  | zero => simp at h1; omega
  | succ k ih =>
    have h4 := pow4_pos k
    have hd := Int.emod_add_mul_ediv i (4 ^ k)
    have hr0 := Int.emod_nonneg i (Int.ne_of_gt h4)
    have hr1 := Int.emod_lt_of_pos i h4
    have hq0 : 0 ≤ i / 4 ^ k := Int.ediv_nonneg h0 (Int.le_of_lt h4)
    have hq1 : i / 4 ^ k < 4 := by
      apply Int.ediv_lt_of_lt_mul h4
      rw [Int.pow_succ] at h1; omega
    by_cases hl : i % 4 ^ k + 1 < 4 ^ k
    · have e1 : (i + 1) / 4 ^ k = i / 4 ^ k := by
        have : i + 1 = (i % 4 ^ k + 1) + 4 ^ k * (i / 4 ^ k) := by omega
        rw [this, Int.add_mul_ediv_left _ _ (Int.ne_of_gt h4), Int.ediv_eq_zero_of_lt (by omega) hl]; omega
      have e2 : (i + 1) % 4 ^ k = i % 4 ^ k + 1 := by
        have : i + 1 = (i % 4 ^ k + 1) + 4 ^ k * (i / 4 ^ k) := by omega
        conv => lhs; rw [this]
        rw [Int.add_mul_emod_self_left, Int.emod_eq_of_lt (by omega) hl]
      have n := ih (i % 4 ^ k) hr0 hl
      rw [hp_mod, ← e2, hp_mod] at n
      rw [hp_succ, hp_succ, e1]
      unfold near at n ⊢
      generalize hp k i = p at *
      generalize hp k (i + 1) = r at *
      generalize (2 : Int) ^ k = m at *
      rcases digit i k with h | h | h | h <;> rw [h] <;> simp only [at0, at1, at2, at3] <;> omega
    · have hr : i % 4 ^ k = 4 ^ k - 1 := by omega
      have e1 : (i + 1) / 4 ^ k = i / 4 ^ k + 1 := by
        have : i + 1 = 0 + 4 ^ k * (i / 4 ^ k + 1) := by rw [Int.mul_add]; omega
        conv => lhs; rw [this]
        rw [Int.add_mul_ediv_left _ _ (Int.ne_of_gt h4)]; simp
      have e2 : (i + 1) % 4 ^ k = 0 := by
        have : i + 1 = 0 + 4 ^ k * (i / 4 ^ k + 1) := by rw [Int.mul_add]; omega
        conv => lhs; rw [this]
        rw [Int.add_mul_emod_self_left]; simp
      have f1 : hp k i = (2 ^ k - 1, 0) := by rw [← hp_mod, hr, hp_last]
      have f2 : hp k (i + 1) = (0, 0) := by rw [← hp_mod, e2, hp_zero]
      have hq2 : i / 4 ^ k < 3 := by
        apply Int.lt_of_not_ge
        intro h3
        have : 4 ^ k * 3 ≤ 4 ^ k * (i / 4 ^ k) := Int.mul_le_mul_of_nonneg_left h3 (Int.le_of_lt h4)
        rw [Int.pow_succ] at h1
        omega
      rw [hp_succ, hp_succ, e1, f1, f2]
      unfold near
      have hm := pow2_pos k
      generalize (2 : Int) ^ k = m at *
      have hqq : i / 4 ^ k = 0 ∨ i / 4 ^ k = 1 ∨ i / 4 ^ k = 2 := by omega
      rcases hqq with h | h | h <;> rw [h]
      · rw [show (0 : Int) % 4 = 0 by decide, show ((0 : Int) + 1) % 4 = 1 by decide]; simp only [at0, at1, true_and]; omega
      · rw [show (1 : Int) % 4 = 1 by decide, show ((1 : Int) + 1) % 4 = 2 by decide]; simp only [at1, at2, true_and]; omega
      · rw [show (2 : Int) % 4 = 2 by decide, show ((2 : Int) + 1) % 4 = 3 by decide]; simp only [at2, at3]; omega
end Go.Proofs.Ytnpilmjpinmgfaa
