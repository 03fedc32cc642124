/-
  THE WALK OF symMerge: two runs in order become one. CONDITIONS: stated.
-/
import Derived.Test.YtgmlaimlcccmhaaISort4
import Derived.Lib.Hide
import Derived.BigRegion
import Derived.Deep.DeepCutAuto
namespace Go.Proofs.Ytgmlaimlcccmhaa
open Go.RowKit Go.Proofs.Ytgmlaimlcccmhaa.Tame
set_option maxHeartbeats 400000

/-- Behind the rotation: both halves are two runs in order, and the first half is not ahead of the second. -/
theorem rot_halves {key : Int → Int} {a m b q s lo hi : Nat} {f : Fn} (h1 : Asc key a m f) (h2 : Asc key m b f) (_hm : a < m) (_hb : m < b) (hlo : a ≤ lo) (hs0 : lo ≤ s) (hs1 : s ≤ hi) (hhm : hi ≤ m) (hhq : hi ≤ q) (hql : q + m ≤ b + lo) (hqb : q < b) (haq : a < q)
    (c3 : lo = a ∨ q + m = b + lo) (c4 : hi = m ∨ hi = q) (g1 : ∀ c, lo ≤ c → c < s → key (f c) ≤ key (f (q + m - 1 - c))) (g2 : ∀ c, s ≤ c → c < hi → key (f (q + m - 1 - c)) < key (f c)) :
    Asc key a s (rotF s m (q + m - s) f) ∧ Asc key s q (rotF s m (q + m - s) f) ∧ Asc key q (q + m - s) (rotF s m (q + m - s) f) ∧ Asc key (q + m - s) b (rotF s m (q + m - s) f) ∧
    ∀ x y, a ≤ x → x < q → q ≤ y → y < b → key (rotF s m (q + m - s) f x) ≤ key (rotF s m (q + m - s) f y) := by
  have e1 : ∀ x, x < s → rotF s m (q + m - s) f x = f x := fun x hx => by unfold rotF; rw [if_neg (by omega), if_neg (by omega)]
  have e2 : ∀ x, s ≤ x → x < q → rotF s m (q + m - s) f x = f (x + (m - s)) := fun x h h' => by unfold rotF; rw [if_pos (by omega)]
  have e3 : ∀ x, q ≤ x → x < q + m - s → rotF s m (q + m - s) f x = f (x - (q - s)) := fun x h h' => by unfold rotF; rw [if_neg (by omega), if_pos (by omega)]; congr 1; omega
  have e4 : ∀ x, q + m - s ≤ x → rotF s m (q + m - s) f x = f x := fun x h => by unfold rotF; rw [if_neg (by omega), if_neg (by omega)]
  refine ⟨?_, ?_, ?_, ?_, ?_⟩
  · intro x y hx hxy hy
    rw [e1 x (by omega), e1 y hy]; exact h1 x y hx hxy (by omega)
  · intro x y hx hxy hy
    rw [e2 x hx (by omega), e2 y (by omega) hy]; exact h2 _ _ (by omega) (by omega) (by omega)
  · intro x y hx hxy hy
    rw [e3 x hx (by omega), e3 y (by omega) hy]; exact h1 _ _ (by omega) (by omega) (by omega)
  · intro x y hx hxy hy
    rw [e4 x hx, e4 y (by omega)]; exact h2 _ _ (by omega) hxy hy
  · intro x y hx hxq hy hyb
    by_cases cx : x < s <;> by_cases cy : y < q + m - s
    · rw [e1 x cx, e3 y hy cy]
      by_cases ee : x = y - (q - s)
      · rw [← ee]; exact Int.le_refl _
      · exact h1 _ _ hx (by omega) (by omega)
    · rw [e1 x cx, e4 y (by omega)]
      have hsl : lo < s := by
        rcases c3 with h | h <;> omega
      have hk1 := g1 (s - 1) (by omega) (by omega)
      have hp : q + m - 1 - (s - 1) = q + m - s := by omega
      rw [hp] at hk1
      have hA : key (f x) ≤ key (f (s - 1)) := by
        by_cases ee : x = s - 1
        · rw [ee]; exact Int.le_refl _
        · exact h1 _ _ hx (by omega) (by omega)
      have hB : key (f (q + m - s)) ≤ key (f y) := by
        by_cases ee : q + m - s = y
        · rw [ee]; exact Int.le_refl _
        · exact h2 _ _ (by omega) (by omega) hyb
      omega
    · rw [e2 x (by omega) hxq, e3 y hy cy]
      have hsh : s < hi := by
        rcases c4 with h | h <;> omega
      have hk2 := g2 s (Nat.le_refl _) hsh
      have hA : key (f (x + (m - s))) ≤ key (f (q + m - 1 - s)) := by
        by_cases ee : x + (m - s) = q + m - 1 - s
        · rw [ee]; exact Int.le_refl _
        · exact h2 _ _ (by omega) (by omega) (by omega)
      have hB : key (f s) ≤ key (f (y - (q - s))) := by
        by_cases ee : s = y - (q - s)
        · rw [← ee]; exact Int.le_refl _
        · exact h1 _ _ (by omega) (by omega) (by omega)
      omega
    · rw [e2 x (by omega) hxq, e4 y (by omega)]
      by_cases ee : x + (m - s) = y
      · rw [ee]; exact Int.le_refl _
      · exact h2 _ _ (by omega) (by omega) hyb
/-- The halves in order: the whole is. -/
theorem halves_asc {key : Int → Int} {a b q : Nat} {h h2 : Fn} (s1 : Asc key a q h2) (s2 : Asc key q b h2) (w1 : ∀ x, a ≤ x → x < q → ∃ y, a ≤ y ∧ y < q ∧ h2 x = h y) (w2 : ∀ x, q ≤ x → x < b → ∃ y, q ≤ y ∧ y < b ∧ h2 x = h y)
    (hx : ∀ x y, a ≤ x → x < q → q ≤ y → y < b → key (h x) ≤ key (h y)) : Asc key a b h2 := by
  intro x y h1 h3 h4
  by_cases cx : x < q <;> by_cases cy : y < q
  · exact s1 x y h1 h3 cy
  · obtain ⟨u, u1, u2, e1⟩ := w1 x h1 cx
    obtain ⟨v, v1, v2, e2⟩ := w2 y (by omega) h4
    rw [e1, e2]; exact hx u v u1 u2 v1 v2
  · omega
  · exact s2 x y (by omega) h3 h4
theorem rot_id1 (m e : Nat) (f : Fn) : rotF m m e f = f := by
  funext x; unfold rotF
  by_cases h : m ≤ x ∧ x < m + (e - m)
  · rw [if_pos h]; congr 1; omega
  · rw [if_neg h]
    by_cases h2 : m + (e - m) ≤ x ∧ x < e
    · omega
    · rw [if_neg h2]
theorem rot_id2 (s m : Nat) (f : Fn) : rotF s m m f = f := by
  funext x; unfold rotF
  rw [if_neg (by omega)]
  by_cases h2 : s + (m - m) ≤ x ∧ x < m
  · rw [if_pos h2]; congr 1; omega
  · rw [if_neg h2]
end Go.Proofs.Ytgmlaimlcccmhaa
