/-
  THE PLAIN CURVE: squares of indexes, step by step as the program goes, no walk in sight. CONDITIONS: stated.
-/
import Derived.Test.YtnpilmjpinmgfaaHWalk1
namespace Go.Proofs.Ytnpilmjpinmgfaa
open Go.RowKit

/-- The square of an index, its lowest j digits (to the base 4) read. -/
def hp : Nat → Int → Int × Int
  | 0, _ => (0, 0)
  | j + 1, i => (tX (hp j i).1 (hp j i).2 (i / 4 ^ j % 4) (2 ^ j) + cX (i / 4 ^ j % 4) (2 ^ j), tY (hp j i).1 (hp j i).2 (i / 4 ^ j % 4) (2 ^ j) + cY (i / 4 ^ j % 4) (2 ^ j))

theorem pow2_pos (j : Nat) : (0 : Int) < 2 ^ j := Int.pow_pos (by decide)
theorem pow4_pos (j : Nat) : (0 : Int) < 4 ^ j := Int.pow_pos (by decide)

theorem digit (i : Int) (j : Nat) : i / 4 ^ j % 4 = 0 ∨ i / 4 ^ j % 4 = 1 ∨ i / 4 ^ j % 4 = 2 ∨ i / 4 ^ j % 4 = 3 := by omega

/-- The square lies in the square of so many bits. -/
theorem hp_bd (j : Nat) (i : Int) : 0 ≤ (hp j i).1 ∧ (hp j i).1 < 2 ^ j ∧ 0 ≤ (hp j i).2 ∧ (hp j i).2 < 2 ^ j := by
  induction j with
  | zero => simp [hp]
  | succ j ih =>
    obtain ⟨a, b, c, d⟩ := ih
    have e : (2 : Int) ^ (j + 1) = 2 ^ j + 2 ^ j := by rw [Int.pow_succ]; omega
    rw [e]
    unfold hp
    generalize hp j i = p at *
    generalize (2 : Int) ^ j = m at *
    rcases digit i j with h | h | h | h <;> rw [h] <;> simp [tX, tY, cX, cY] <;> omega

theorem div_step (i : Int) (j : Nat) : i / 4 ^ j / 4 = i / 4 ^ (j + 1) := by
  rw [Int.pow_succ, Int.ediv_ediv_of_nonneg (Int.le_of_lt (pow4_pos j))]

/-- A square's index, from the outermost quarter on (the document's way). -/
def hix : Nat → Int → Int → Int
  | 0, _, _ => 0
  | k + 1, x, y => if x < 2 ^ k ∧ y < 2 ^ k then hix k (y % 2 ^ k) (x % 2 ^ k) else if x < 2 ^ k then 4 ^ k + hix k (x % 2 ^ k) (y % 2 ^ k)
      else if 2 ^ k ≤ y then 2 * 4 ^ k + hix k (x % 2 ^ k) (y % 2 ^ k) else 3 * 4 ^ k + hix k (2 ^ k - 1 - y % 2 ^ k) (2 ^ k - 1 - x % 2 ^ k)

theorem hix_succ (k : Nat) (x y : Int) : hix (k + 1) x y = if x < 2 ^ k ∧ y < 2 ^ k then hix k (y % 2 ^ k) (x % 2 ^ k) else if x < 2 ^ k then 4 ^ k + hix k (x % 2 ^ k) (y % 2 ^ k)
      else if 2 ^ k ≤ y then 2 * 4 ^ k + hix k (x % 2 ^ k) (y % 2 ^ k) else 3 * 4 ^ k + hix k (2 ^ k - 1 - y % 2 ^ k) (2 ^ k - 1 - x % 2 ^ k) := rfl
theorem hp_succ (j : Nat) (i : Int) : hp (j + 1) i = (tX (hp j i).1 (hp j i).2 (i / 4 ^ j % 4) (2 ^ j) + cX (i / 4 ^ j % 4) (2 ^ j), tY (hp j i).1 (hp j i).2 (i / 4 ^ j % 4) (2 ^ j) + cY (i / 4 ^ j % 4) (2 ^ j)) := rfl
theorem at0 (x y h : Int) : tX x y 0 h + cX 0 h = y ∧ tY x y 0 h + cY 0 h = x := by simp [tX, tY, cX, cY]
theorem at1 (x y h : Int) : tX x y 1 h + cX 1 h = x ∧ tY x y 1 h + cY 1 h = y + h := by simp [tX, tY, cX, cY]
theorem at2 (x y h : Int) : tX x y 2 h + cX 2 h = x + h ∧ tY x y 2 h + cY 2 h = y + h := by simp [tX, tY, cX, cY]
theorem at3 (x y h : Int) : tX x y 3 h + cX 3 h = h - 1 - y + h ∧ tY x y 3 h + cY 3 h = h - 1 - x := by simp [tX, tY, cX, cY]

theorem hix_hp (k : Nat) (i : Int) : hix k (hp k i).1 (hp k i).2 = i % 4 ^ k := by
  induction k with
  | zero => simp [hix]
  | succ k ih =>
    obtain ⟨a, b, c, d⟩ := hp_bd k i
    have e : i % 4 ^ (k + 1) = i / 4 ^ k % 4 * 4 ^ k + i % 4 ^ k := by
      have h1 := Int.emod_add_mul_ediv i (4 ^ k)
      have h2 := Int.emod_add_mul_ediv i (4 ^ (k + 1))
      have h3 := Int.emod_add_mul_ediv (i / 4 ^ k) 4
      rw [div_step] at h3
      rw [Int.pow_succ] at h2 ⊢
      have h4 : 4 ^ k * 4 * (i / 4 ^ (k + 1)) = 4 ^ k * (4 * (i / 4 ^ (k + 1))) := Int.mul_assoc _ _ _
      rw [Int.pow_succ] at h4 h3
      rw [← h3, Int.mul_add] at h1
      rw [h4] at h2
      rw [Int.mul_comm (i / 4 ^ k % 4)]
      omega
    rw [e, ← ih]
    have m0 : (hp k i).1 % 2 ^ k = (hp k i).1 := Int.emod_eq_of_lt a b
    have m1 : (hp k i).2 % 2 ^ k = (hp k i).2 := Int.emod_eq_of_lt c d
    rw [hp_succ, hix_succ]
    generalize hp k i = p at *
    have hm := pow2_pos k
    generalize (2 : Int) ^ k = m at *
    have ad : ∀ v : Int, (v + m) % m = v % m := fun v => by rw [Int.add_emod_right]
    rcases digit i k with h | h | h | h <;> rw [h] <;> simp only
    · rw [(at0 p.1 p.2 m).1, (at0 p.1 p.2 m).2, if_pos ⟨by omega, by omega⟩, m0, m1]
      omega
    · rw [(at1 p.1 p.2 m).1, (at1 p.1 p.2 m).2, if_neg (by omega), if_pos (by omega), ad, m0, m1]
      omega
    · rw [(at2 p.1 p.2 m).1, (at2 p.1 p.2 m).2, if_neg (by omega), if_neg (by omega), if_pos (by omega), ad, ad, m0, m1]
    · rw [(at3 p.1 p.2 m).1, (at3 p.1 p.2 m).2, if_neg (by omega), if_neg (by omega), if_neg (by omega), ad,
        Int.emod_eq_of_lt (a := m - 1 - p.1) (by omega) (by omega), Int.emod_eq_of_lt (a := m - 1 - p.2) (by omega) (by omega), show m - 1 - (m - 1 - p.1) = p.1 by omega, show m - 1 - (m - 1 - p.2) = p.2 by omega]
end Go.Proofs.Ytnpilmjpinmgfaa
