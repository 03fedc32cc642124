/-
  THE PLAIN LAWS OF SIDES AND OF POINTS ON A LINE: no program in sight. CONDITIONS: stated.
-/
import Derived.Test.YtcpjgcpclekjkaaBoxes2
namespace Go.Proofs.Ytcpjgcpclekjkaa
open Go.RowKit

/-- Which of two numbers is the greater one. -/
def cmpI (a b : Int) : Int := if a < b then -1 else if b < a then 1 else 0
/-- Lies a point on a line? By how far it goes along (the document's way). -/
def onB (ax ay bx by' px py : Int) : Bool := lineB ax ay bx by' && mayB px py && (crossI ax ay bx by' px py == 0) && decide (0 ≤ dotI ax ay bx by' px py) && decide (dotI ax ay bx by' px py ≤ dotI ax ay bx by' bx by')
/-- By the line's box (the program's way). -/
def inboxB (ax ay bx by' px py : Int) : Bool := decide (minI ax bx ≤ px) && decide (px ≤ maxI ax bx) && decide (minI ay by' ≤ py) && decide (py ≤ maxI ay by')

theorem between {a b p : Int} : (minI a b ≤ p ∧ p ≤ maxI a b) ↔ ((0 ≤ b - a ∧ 0 ≤ p - a ∧ p - a ≤ b - a) ∨ (b - a < 0 ∧ b - a ≤ p - a ∧ p - a ≤ 0)) := by
  unfold minI maxI
  split <;> split <;> omega

theorem along_nn {u v n d : Int} (hn : 0 < n) (e : u * d = v * n) (h0 : 0 ≤ d) (h1 : d ≤ n) (hu : 0 ≤ u) : 0 ≤ v ∧ v ≤ u := by
  have a : 0 ≤ u * d := Int.mul_nonneg hu h0
  have b : u * d ≤ u * n := Int.mul_le_mul_of_nonneg_left h1 hu
  rw [e] at a b
  exact ⟨Int.nonneg_of_mul_nonneg_left a hn, Int.le_of_mul_le_mul_right b hn⟩
theorem along_neg {u v n d : Int} (hn : 0 < n) (e : u * d = v * n) (h0 : 0 ≤ d) (h1 : d ≤ n) (hu : u < 0) : u ≤ v ∧ v ≤ 0 := by
  have := along_nn (u := -u) (v := -v) hn (by rw [Int.neg_mul, Int.neg_mul, e]) h0 h1 (by omega)
  omega
theorem prod_box {u v : Int} (h : (0 ≤ u ∧ 0 ≤ v ∧ v ≤ u) ∨ (u < 0 ∧ u ≤ v ∧ v ≤ 0)) : 0 ≤ u * v ∧ u * v ≤ u * u := by
  rcases h with ⟨a, b, c⟩ | ⟨a, b, c⟩
  · exact ⟨Int.mul_nonneg a b, Int.mul_le_mul_of_nonneg_left c a⟩
  · have h1 := Int.mul_nonneg (a := -u) (b := -v) (by omega) (by omega)
    have h2 := Int.mul_le_mul_of_nonneg_left (a := -v) (b := -u) (c := -u) (by omega) (by omega)
    rw [Int.neg_mul_neg] at h1 h2
    rw [Int.neg_mul_neg] at h2
    exact ⟨h1, h2⟩
theorem on_core {ux uy vx vy : Int} (hu : ux ≠ 0 ∨ uy ≠ 0) (hc : ux * vy - uy * vx = 0) :
    (0 ≤ ux * vx + uy * vy ∧ ux * vx + uy * vy ≤ ux * ux + uy * uy) ↔
      (((0 ≤ ux ∧ 0 ≤ vx ∧ vx ≤ ux) ∨ (ux < 0 ∧ ux ≤ vx ∧ vx ≤ 0)) ∧ ((0 ≤ uy ∧ 0 ≤ vy ∧ vy ≤ uy) ∨ (uy < 0 ∧ uy ≤ vy ∧ vy ≤ 0))) := by
  have hn : 0 < ux * ux + uy * uy := by
    have a : 0 ≤ ux * ux := by by_cases e : ux = 0; · simp [e]
                               · exact Int.le_of_lt (sq_pos e)
    have b : 0 ≤ uy * uy := by by_cases e : uy = 0; · simp [e]
                               · exact Int.le_of_lt (sq_pos e)
    rcases hu with h | h
    · have := sq_pos h; omega
    · have := sq_pos h; omega
  have hc' : ux * vy = uy * vx := by omega
  have ex : ux * (ux * vx + uy * vy) = vx * (ux * ux + uy * uy) := by
    have : ux * (uy * vy) = uy * (uy * vx) := by rw [← hc', ← Int.mul_assoc, ← Int.mul_assoc, Int.mul_comm ux uy]
    rw [Int.mul_add, Int.mul_add, this, Int.mul_comm vx (ux * ux), Int.mul_comm vx (uy * uy), Int.mul_assoc, Int.mul_assoc]
  have ey : uy * (ux * vx + uy * vy) = vy * (ux * ux + uy * uy) := by
    have : uy * (ux * vx) = ux * (ux * vy) := by rw [hc', ← Int.mul_assoc, ← Int.mul_assoc, Int.mul_comm ux uy]
    rw [Int.mul_add, Int.mul_add, this, Int.mul_comm vy (ux * ux), Int.mul_comm vy (uy * uy), Int.mul_assoc, Int.mul_assoc]
  constructor
  · rintro ⟨h0, h1⟩
    constructor
    · by_cases s : 0 ≤ ux
      · have := along_nn hn ex h0 h1 s; omega
      · have := along_neg hn ex h0 h1 (by omega); omega
    · by_cases s : 0 ≤ uy
      · have := along_nn hn ey h0 h1 s; omega
      · have := along_neg hn ey h0 h1 (by omega); omega
  · rintro ⟨hx, hy⟩
    have ⟨a, b⟩ := prod_box hx
    have ⟨c, d⟩ := prod_box hy
    omega

theorem line_may {ax ay bx by' : Int} (h : lineB ax ay bx by' = true) : mayB ax ay = true ∧ mayB bx by' = true ∧ (bx - ax ≠ 0 ∨ by' - ay ≠ 0) := by
  unfold lineB at h
  simp only [Bool.and_eq_true, Bool.or_eq_true, Bool.not_eq_true', decide_eq_false_iff_not] at h
  exact ⟨h.1.1, h.1.2, by omega⟩
theorem cross_val {ax ay bx by' cx cy : Int} (h1 : mayB ax ay = true) (h2 : mayB bx by' = true) (h3 : mayB cx cy = true) : crossI ax ay bx by' cx cy = (bx - ax) * (cy - ay) - (by' - ay) * (cx - ax) := by
  unfold crossI; rw [h1, h2, h3]; rfl
theorem dot_val {ax ay bx by' cx cy : Int} (h1 : mayB ax ay = true) (h2 : mayB bx by' = true) (h3 : mayB cx cy = true) : dotI ax ay bx by' cx cy = (bx - ax) * (cx - ax) + (by' - ay) * (cy - ay) := by
  unfold dotI; rw [h1, h2, h3]; rfl

theorem on_box (ax ay bx by' px py : Int) (h1 : lineB ax ay bx by' = true) (h2 : mayB px py = true) (h3 : crossI ax ay bx by' px py = 0) :
    (decide (0 ≤ dotI ax ay bx by' px py) && decide (dotI ax ay bx by' px py ≤ dotI ax ay bx by' bx by')) = inboxB ax ay bx by' px py := by
  obtain ⟨a, b, u⟩ := line_may h1
  rw [cross_val a b h2] at h3
  have key := on_core u h3
  have kx := between (a := ax) (b := bx) (p := px)
  have ky := between (a := ay) (b := by') (p := py)
  rw [dot_val a b h2, dot_val a b b]
  unfold inboxB
  rw [Bool.eq_iff_iff]
  simp only [Bool.and_eq_true, decide_eq_true_eq]
  rw [key, ← kx, ← ky]
  constructor
  · rintro ⟨⟨p, q⟩, r, s⟩; exact ⟨⟨⟨p, q⟩, r⟩, s⟩
  · rintro ⟨⟨⟨p, q⟩, r⟩, s⟩; exact ⟨⟨p, q⟩, r, s⟩

theorem on_eq (ax ay bx by' px py : Int) : onB ax ay bx by' px py = (lineB ax ay bx by' && mayB px py && (crossI ax ay bx by' px py == 0) && inboxB ax ay bx by' px py) := by
  unfold onB
  cases h1 : lineB ax ay bx by' <;> cases h2 : mayB px py <;> cases h3 : (crossI ax ay bx by' px py == 0) <;> try rfl
  rw [← on_box ax ay bx by' px py h1 h2 (by simpa using h3)]
  simp

theorem cmp_ne (c : Int) : (cmpI c 0 != 0) = !(c == 0) := by
  unfold cmpI
  by_cases h : c < 0
  · rw [if_pos h]
    have : (c == 0) = false := by simp; omega
    rw [this]; rfl
  · rw [if_neg h]
    by_cases h2 : 0 < c
    · rw [if_pos h2]
      have : (c == 0) = false := by simp; omega
      rw [this]; rfl
    · rw [if_neg h2]
      have : c = 0 := by omega
      subst this; rfl
theorem cmp_eq (c : Int) : (cmpI c 0 == 0) = (c == 0) := by
  have := cmp_ne c
  unfold bne at this
  simpa using this
end Go.Proofs.Ytcpjgcpclekjkaa
