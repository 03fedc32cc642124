/-
  THE PLAIN LAWS OF LINES: turned about, exchanged, turned about the origin: no program in sight. CONDITIONS: stated.
-/
import Derived.Test.YtcpjgcpclekjkaaOri2
namespace Go.Proofs.Ytcpjgcpclekjkaa
open Go.RowKit

theorem cmp_neg (c : Int) : cmpI (-c) 0 = -cmpI c 0 := by
  unfold cmpI
  by_cases h : c < 0
  · rw [if_pos h, if_neg (by omega), if_pos (by omega)]; rfl
  · by_cases h2 : 0 < c
    · rw [if_neg h, if_pos h2, if_pos (by omega)]
    · rw [if_neg h, if_neg h2, if_neg (by omega), if_neg (by omega)]; rfl
theorem cmp_swap (a b : Int) : cmpI a b = -cmpI b a := by
  unfold cmpI
  by_cases h : a < b
  · rw [if_pos h, if_neg (by omega), if_pos h]
  · by_cases h2 : b < a
    · rw [if_neg h, if_pos h2, if_pos h2]; rfl
    · rw [if_neg h, if_neg h2, if_neg h2, if_neg h]; rfl

theorem cross_rev (ax ay bx by' cx cy : Int) : crossI bx by' ax ay cx cy = -crossI ax ay bx by' cx cy := by
  cases h1 : mayB ax ay <;> cases h2 : mayB bx by' <;> cases h3 : mayB cx cy
  all_goals first | (rw [cross_val h1 h2 h3, cross_val h2 h1 h3]) | (unfold crossI; rw [h1, h2, h3]; rfl)
  simp only [Int.sub_mul, Int.mul_sub]
  rw [Int.mul_comm by' cx, Int.mul_comm by' ax, Int.mul_comm ay cx, Int.mul_comm ay ax, Int.mul_comm ay bx, Int.mul_comm by' bx]
  omega
theorem line_rev (ax ay bx by' : Int) : lineB bx by' ax ay = lineB ax ay bx by' := by
  unfold lineB
  have e1 : decide (bx = ax) = decide (ax = bx) := by rw [Bool.eq_iff_iff]; simp [eq_comm]
  have e2 : decide (by' = ay) = decide (ay = by') := by rw [Bool.eq_iff_iff]; simp [eq_comm]
  rw [e1, e2, Bool.and_comm (mayB bx by')]
theorem dot_rev {ax ay bx by' cx cy : Int} (h1 : mayB ax ay = true) (h2 : mayB bx by' = true) (h3 : mayB cx cy = true) : dotI bx by' ax ay cx cy = dotI ax ay bx by' bx by' - dotI ax ay bx by' cx cy ∧ dotI bx by' ax ay ax ay = dotI ax ay bx by' bx by' := by
  rw [dot_val h2 h1 h3, dot_val h1 h2 h2, dot_val h1 h2 h3, dot_val h2 h1 h1]
  have e1 : ax - bx = -(bx - ax) := by omega
  have e2 : ay - by' = -(by' - ay) := by omega
  have e3 : cx - bx = (cx - ax) - (bx - ax) := by omega
  have e4 : cy - by' = (cy - ay) - (by' - ay) := by omega
  rw [e1, e2, e3, e4]
  generalize bx - ax = u
  generalize by' - ay = v
  generalize cx - ax = p
  generalize cy - ay = q
  constructor
  · rw [Int.neg_mul, Int.neg_mul, Int.mul_sub, Int.mul_sub]; omega
  · rw [Int.neg_mul_neg, Int.neg_mul_neg]
theorem on_rev (ax ay bx by' px py : Int) : onB bx by' ax ay px py = onB ax ay bx by' px py := by
  unfold onB
  rw [line_rev, cross_rev ax ay bx by' px py]
  cases h1 : lineB ax ay bx by' <;> cases h2 : mayB px py <;> try rfl
  obtain ⟨m1, m2, _⟩ := line_may h1
  obtain ⟨e1, e2⟩ := dot_rev m1 m2 h2
  rw [e1, e2, Bool.eq_iff_iff]
  simp only [Bool.and_eq_true, Bool.true_and, decide_eq_true_eq, beq_iff_eq]
  omega
theorem split_rev (ax ay bx by' cx cy dx dy : Int) : splitB bx by' ax ay cx cy dx dy = splitB ax ay bx by' cx cy dx dy := by
  unfold splitB
  rw [cross_rev ax ay bx by' cx cy, cross_rev ax ay bx by' dx dy, cmp_neg, cmp_neg, Int.neg_mul_neg]
theorem split_swap (ax ay bx by' cx cy dx dy : Int) : splitB ax ay bx by' dx dy cx cy = splitB ax ay bx by' cx cy dx dy := by
  unfold splitB
  rw [Int.mul_comm]
theorem touch_sym (ax ay bx by' cx cy dx dy : Int) : touchB cx cy dx dy ax ay bx by' = touchB ax ay bx by' cx cy dx dy := by
  unfold touchB
  cases lineB ax ay bx by' <;> cases lineB cx cy dx dy <;> cases onB ax ay bx by' cx cy <;> cases onB ax ay bx by' dx dy <;> cases onB cx cy dx dy ax ay <;> cases onB cx cy dx dy bx by' <;> cases splitB ax ay bx by' cx cy dx dy <;> cases splitB cx cy dx dy ax ay bx by' <;> rfl
theorem touch_rev (ax ay bx by' cx cy dx dy : Int) : touchB bx by' ax ay cx cy dx dy = touchB ax ay bx by' cx cy dx dy := by
  unfold touchB
  rw [line_rev, on_rev ax ay bx by' cx cy, on_rev ax ay bx by' dx dy, split_rev, split_swap cx cy dx dy ax ay bx by']
  cases lineB ax ay bx by' <;> cases lineB cx cy dx dy <;> cases onB ax ay bx by' cx cy <;> cases onB ax ay bx by' dx dy <;> cases onB cx cy dx dy ax ay <;> cases onB cx cy dx dy bx by' <;> rfl

theorem parallel {ux uy px py qx qy : Int} (hu : ux ≠ 0 ∨ uy ≠ 0) (h1 : ux * py - uy * px = 0) (h2 : ux * qy - uy * qx = 0) : px * qy - py * qx = 0 := by
  have a1 : ux * py = uy * px := by omega
  have a2 : ux * qy = uy * qx := by omega
  rcases hu with h | h
  · have : ux * (px * qy - py * qx) = 0 := by
      rw [Int.mul_sub, ← Int.mul_assoc, Int.mul_comm ux px, Int.mul_assoc, a2, ← Int.mul_assoc ux py qx, a1, ← Int.mul_assoc, Int.mul_comm px uy]
      omega
    rcases Int.mul_eq_zero.1 this with e | e
    · exact absurd e h
    · exact e
  · have : uy * (px * qy - py * qx) = 0 := by
      rw [Int.mul_sub, ← Int.mul_assoc, ← a1, Int.mul_comm py qx, ← Int.mul_assoc uy qx py, ← a2, Int.mul_assoc, Int.mul_assoc, Int.mul_comm py qy]
      omega
    rcases Int.mul_eq_zero.1 this with e | e
    · exact absurd e h
    · exact e

theorem along_half (ax ay bx by' cx cy dx dy : Int) (h : alongB ax ay bx by' cx cy dx dy = true) : alongB cx cy dx dy ax ay bx by' = true := by
  unfold alongB at h ⊢
  simp only [Bool.and_eq_true, beq_iff_eq] at h ⊢
  obtain ⟨⟨⟨h1, h2⟩, h3⟩, h4⟩ := h
  obtain ⟨m1, m2, u⟩ := line_may h1
  obtain ⟨m3, m4, _⟩ := line_may h2
  rw [cross_val m1 m2 m3] at h3
  rw [cross_val m1 m2 m4] at h4
  have hp := parallel u h3 h4
  refine ⟨⟨⟨h2, h1⟩, ?_⟩, ?_⟩
  · rw [cross_val m3 m4 m1]
    have e1 : dx - cx = (dx - ax) - (cx - ax) := by omega
    have e2 : dy - cy = (dy - ay) - (cy - ay) := by omega
    have e3 : ax - cx = -(cx - ax) := by omega
    have e4 : ay - cy = -(cy - ay) := by omega
    rw [e1, e2, e3, e4]
    generalize cx - ax = p at *
    generalize cy - ay = q at *
    generalize dx - ax = r at *
    generalize dy - ay = s at *
    simp only [Int.sub_mul, Int.mul_neg]
    rw [Int.mul_comm r q, Int.mul_comm s p, Int.mul_comm q p]
    omega
  · rw [cross_val m3 m4 m2]
    have e1 : dx - cx = (dx - ax) - (cx - ax) := by omega
    have e2 : dy - cy = (dy - ay) - (cy - ay) := by omega
    have e3 : bx - cx = (bx - ax) - (cx - ax) := by omega
    have e4 : by' - cy = (by' - ay) - (cy - ay) := by omega
    rw [e1, e2, e3, e4]
    generalize cx - ax = p at *
    generalize cy - ay = q at *
    generalize dx - ax = r at *
    generalize dy - ay = s at *
    generalize bx - ax = m at *
    generalize by' - ay = n at *
    simp only [Int.sub_mul, Int.mul_sub]
    rw [Int.mul_comm r n, Int.mul_comm p n, Int.mul_comm s m, Int.mul_comm q m, Int.mul_comm r q, Int.mul_comm s p, Int.mul_comm q p]
    omega
theorem along_sym (ax ay bx by' cx cy dx dy : Int) : alongB cx cy dx dy ax ay bx by' = alongB ax ay bx by' cx cy dx dy := by
  rw [Bool.eq_iff_iff]
  exact ⟨along_half _ _ _ _ _ _ _ _, along_half _ _ _ _ _ _ _ _⟩
theorem order_rev (ax ay bx by' px py qx qy : Int) : orderI ax ay bx by' px py qx qy = -orderI bx by' ax ay px py qx qy := by
  unfold orderI
  rw [on_rev ax ay bx by' px py, on_rev ax ay bx by' qx qy]
  cases h1 : onB ax ay bx by' px py <;> cases h2 : onB ax ay bx by' qx qy <;> try rfl
  have k1 := h1
  have k2 := h2
  unfold onB at k1 k2
  simp only [Bool.and_eq_true] at k1 k2
  obtain ⟨m1, m2, _⟩ := line_may k1.1.1.1.1
  rw [(dot_rev m1 m2 k1.1.1.1.2).1, (dot_rev m1 m2 k2.1.1.1.2).1]
  simp only [Bool.and_self, if_true]
  rw [cmp_swap]
  generalize dotI ax ay bx by' bx by' = n
  generalize dotI ax ay bx by' px py = a
  generalize dotI ax ay bx by' qx qy = b
  unfold cmpI
  split <;> split <;> (try split) <;> (try split) <;> first | rfl | omega
theorem on_parts {ax ay bx by' px py : Int} (h : onB ax ay bx by' px py = true) : lineB ax ay bx by' = true ∧ cmpI (crossI ax ay bx by' px py) 0 = 0 := by
  unfold onB at h
  simp only [Bool.and_eq_true, beq_iff_eq] at h
  exact ⟨h.1.1.1.1, by rw [h.1.1.2]; rfl⟩
end Go.Proofs.Ytcpjgcpclekjkaa
