/-
  THE PLAIN LAW OF TURNING, FOR LINES: what is told of lines and points stays as all are turned: no program in sight. CONDITIONS: the points may be.
-/
import Derived.Test.YtcpjgcpclekjkaaOriLaws
namespace Go.Proofs.Ytcpjgcpclekjkaa
open Go.RowKit

theorem may_t {ax ay : Int} (q : Int) (h : mayB ax ay = true) : mayB (turnX ax ay q) (turnY ax ay q) = true := by
  obtain ⟨p1, p2⟩ := may_iff.1 h
  rcases turn_cases ax ay ax ay ax ay q h h h with e | e | e | e <;> obtain ⟨e1, e2, _⟩ := e <;> rw [e1, e2] <;> refine may_iff.2 ⟨?_, ?_⟩ <;> first | assumption | (apply okI_neg; assumption)
theorem cross_t {ax ay bx by' cx cy : Int} (q : Int) (h1 : mayB ax ay = true) (h2 : mayB bx by' = true) (h3 : mayB cx cy = true) :
    crossI (turnX ax ay q) (turnY ax ay q) (turnX bx by' q) (turnY bx by' q) (turnX cx cy q) (turnY cx cy q) = crossI ax ay bx by' cx cy :=
  (turn_facts ax ay bx by' cx cy q (by rw [h1, h2, h3]; rfl)).2.2.1
theorem dot_t {ax ay bx by' cx cy : Int} (q : Int) (h1 : mayB ax ay = true) (h2 : mayB bx by' = true) (h3 : mayB cx cy = true) :
    dotI (turnX ax ay q) (turnY ax ay q) (turnX bx by' q) (turnY bx by' q) (turnX cx cy q) (turnY cx cy q) = dotI ax ay bx by' cx cy := by
  rw [dot_val (may_t q h1) (may_t q h2) (may_t q h3), dot_val h1 h2 h3]
  rcases turn_cases ax ay bx by' cx cy q h1 h2 h3 with e | e | e | e <;> obtain ⟨e1, e2, e3, e4, e5, e6⟩ := e <;> rw [e1, e2, e3, e4, e5, e6]
  · rw [show -by' - -ay = -(by' - ay) by omega, show -cy - -ay = -(cy - ay) by omega, Int.neg_mul_neg]; omega
  · rw [show -by' - -ay = -(by' - ay) by omega, show -cy - -ay = -(cy - ay) by omega, show -bx - -ax = -(bx - ax) by omega, show -cx - -ax = -(cx - ax) by omega, Int.neg_mul_neg, Int.neg_mul_neg]
  · rw [show -bx - -ax = -(bx - ax) by omega, show -cx - -ax = -(cx - ax) by omega, Int.neg_mul_neg]; omega
theorem line_t {ax ay bx by' : Int} (q : Int) (h1 : mayB ax ay = true) (h2 : mayB bx by' = true) :
    lineB (turnX ax ay q) (turnY ax ay q) (turnX bx by' q) (turnY bx by' q) = lineB ax ay bx by' := by
  unfold lineB
  rw [may_t q h1, may_t q h2, h1, h2, Bool.eq_iff_iff]
  simp only [Bool.and_eq_true, Bool.or_eq_true, Bool.not_eq_true', decide_eq_false_iff_not, true_and]
  rcases turn_cases ax ay bx by' ax ay q h1 h2 h1 with e | e | e | e <;> obtain ⟨e1, e2, e3, e4, _⟩ := e <;> rw [e1, e2, e3, e4] <;> omega
theorem on_t {ax ay bx by' cx cy : Int} (q : Int) (h1 : mayB ax ay = true) (h2 : mayB bx by' = true) (h3 : mayB cx cy = true) :
    onB (turnX ax ay q) (turnY ax ay q) (turnX bx by' q) (turnY bx by' q) (turnX cx cy q) (turnY cx cy q) = onB ax ay bx by' cx cy := by
  unfold onB
  rw [line_t q h1 h2, may_t q h3, cross_t q h1 h2 h3, dot_t q h1 h2 h3, dot_t q h1 h2 h2, h3]
theorem split_t {ax ay bx by' cx cy dx dy : Int} (q : Int) (h1 : mayB ax ay = true) (h2 : mayB bx by' = true) (h3 : mayB cx cy = true) (h4 : mayB dx dy = true) :
    splitB (turnX ax ay q) (turnY ax ay q) (turnX bx by' q) (turnY bx by' q) (turnX cx cy q) (turnY cx cy q) (turnX dx dy q) (turnY dx dy q) = splitB ax ay bx by' cx cy dx dy := by
  unfold splitB
  rw [cross_t q h1 h2 h3, cross_t q h1 h2 h4]
theorem touch_t {ax ay bx by' cx cy dx dy : Int} (q : Int) (h1 : mayB ax ay = true) (h2 : mayB bx by' = true) (h3 : mayB cx cy = true) (h4 : mayB dx dy = true) :
    touchB (turnX ax ay q) (turnY ax ay q) (turnX bx by' q) (turnY bx by' q) (turnX cx cy q) (turnY cx cy q) (turnX dx dy q) (turnY dx dy q) = touchB ax ay bx by' cx cy dx dy := by
  unfold touchB
  rw [line_t q h1 h2, line_t q h3 h4, on_t q h1 h2 h3, on_t q h1 h2 h4, on_t q h3 h4 h1, on_t q h3 h4 h2, split_t q h1 h2 h3 h4, split_t q h3 h4 h1 h2]
theorem along_t {ax ay bx by' cx cy dx dy : Int} (q : Int) (h1 : mayB ax ay = true) (h2 : mayB bx by' = true) (h3 : mayB cx cy = true) (h4 : mayB dx dy = true) :
    alongB (turnX ax ay q) (turnY ax ay q) (turnX bx by' q) (turnY bx by' q) (turnX cx cy q) (turnY cx cy q) (turnX dx dy q) (turnY dx dy q) = alongB ax ay bx by' cx cy dx dy := by
  unfold alongB
  rw [line_t q h1 h2, line_t q h3 h4, cross_t q h1 h2 h3, cross_t q h1 h2 h4]
theorem order_t {ax ay bx by' cx cy dx dy : Int} (q : Int) (h1 : mayB ax ay = true) (h2 : mayB bx by' = true) (h3 : mayB cx cy = true) (h4 : mayB dx dy = true) :
    orderI (turnX ax ay q) (turnY ax ay q) (turnX bx by' q) (turnY bx by' q) (turnX cx cy q) (turnY cx cy q) (turnX dx dy q) (turnY dx dy q) = orderI ax ay bx by' cx cy dx dy := by
  unfold orderI
  rw [on_t q h1 h2 h3, on_t q h1 h2 h4, dot_t q h1 h2 h3, dot_t q h1 h2 h4]
end Go.Proofs.Ytcpjgcpclekjkaa
