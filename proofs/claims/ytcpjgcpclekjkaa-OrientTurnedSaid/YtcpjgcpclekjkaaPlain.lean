/-
  THE PLAIN LAW OF TURNING, AND SMALL LAWS OF NUMBERS: no program in sight. CONDITIONS: stated.
-/
import Derived.Test.YtcpjgcpclekjkaaTurn2
import Derived.Test.YtcpjgcpclekjkaaCmp
namespace Go.Proofs.Ytcpjgcpclekjkaa
open Go.RowKit

theorem okI_neg {x : Int} (h : okI x) : okI (-x) := by unfold okI at *; omega
theorem inB_iff {x : Int} : inB x = true ↔ okI x := by simp [inB, okI]
theorem may_iff {x y : Int} : mayB x y = true ↔ okI x ∧ okI y := by simp [mayB, inB_iff]
theorem turn_cases (ax ay bx by' cx cy q : Int) (h1 : mayB ax ay = true) (h2 : mayB bx by' = true) (h3 : mayB cx cy = true) :
    (turnX ax ay q = ax ∧ turnY ax ay q = ay ∧ turnX bx by' q = bx ∧ turnY bx by' q = by' ∧ turnX cx cy q = cx ∧ turnY cx cy q = cy) ∨
    (turnX ax ay q = -ay ∧ turnY ax ay q = ax ∧ turnX bx by' q = -by' ∧ turnY bx by' q = bx ∧ turnX cx cy q = -cy ∧ turnY cx cy q = cx) ∨
    (turnX ax ay q = -ax ∧ turnY ax ay q = -ay ∧ turnX bx by' q = -bx ∧ turnY bx by' q = -by' ∧ turnX cx cy q = -cx ∧ turnY cx cy q = -cy) ∨
    (turnX ax ay q = ay ∧ turnY ax ay q = -ax ∧ turnX bx by' q = by' ∧ turnY bx by' q = -bx ∧ turnX cx cy q = cy ∧ turnY cx cy q = -cx) := by
  unfold turnX turnY
  rw [h1, h2, h3]
  by_cases q0 : q % 4 = 0
  · left; simp [q0]
  · by_cases q1 : q % 4 = 1
    · right; left; simp [q1]
    · by_cases q2 : q % 4 = 2
      · right; right; left; simp [q2]
      · right; right; right; simp [q0, q1, q2]
theorem cross_turn (ax ay bx by' cx cy : Int) : (-by' - -ay) * (cx - ax) - (bx - ax) * (-cy - -ay) = (bx - ax) * (cy - ay) - (by' - ay) * (cx - ax) := by
  have e1 : (-by' - -ay) = -(by' - ay) := by omega
  have e2 : (-cy - -ay) = -(cy - ay) := by omega
  rw [e1, e2, Int.neg_mul, Int.mul_neg]; omega
theorem cross_turn2 (ax ay bx by' cx cy : Int) : (-bx - -ax) * (-cy - -ay) - (-by' - -ay) * (-cx - -ax) = (bx - ax) * (cy - ay) - (by' - ay) * (cx - ax) := by
  have e1 : (-by' - -ay) = -(by' - ay) := by omega
  have e2 : (-cy - -ay) = -(cy - ay) := by omega
  have e3 : (-bx - -ax) = -(bx - ax) := by omega
  have e4 : (-cx - -ax) = -(cx - ax) := by omega
  rw [e1, e2, e3, e4, Int.neg_mul_neg, Int.neg_mul_neg]
theorem cross_turn3 (ax ay bx by' cx cy : Int) : (by' - ay) * (-cx - -ax) - (-bx - -ax) * (cy - ay) = (bx - ax) * (cy - ay) - (by' - ay) * (cx - ax) := by
  have e3 : (-bx - -ax) = -(bx - ax) := by omega
  have e4 : (-cx - -ax) = -(cx - ax) := by omega
  rw [e3, e4, Int.neg_mul, Int.mul_neg]; omega
theorem sq_turn (u v : Int) : -u * -u + -v * -v = u * u + v * v := by rw [Int.neg_mul_neg, Int.neg_mul_neg]
theorem sq_pos {u : Int} (h : u ≠ 0) : 0 < u * u := by
  rcases Int.lt_or_gt_of_ne h with h | h
  · exact Int.mul_pos_of_neg_of_neg h h
  · exact Int.mul_pos h h
theorem sq_zero {u v : Int} (h : u * u + v * v = 0) : u = 0 ∧ v = 0 := by
  have a : 0 ≤ u * u := Classical.byCases (p := u = 0) (fun e => by simp [e]) (fun e => Int.le_of_lt (sq_pos e))
  have b : 0 ≤ v * v := Classical.byCases (p := v = 0) (fun e => by simp [e]) (fun e => Int.le_of_lt (sq_pos e))
  constructor
  · exact Classical.byContradiction fun e => by have := sq_pos e; omega
  · exact Classical.byContradiction fun e => by have := sq_pos e; omega

theorem cross_bd (ax ay bx by' cx cy : Int) : -2305843009213693952 ≤ crossI ax ay bx by' cx cy ∧ crossI ax ay bx by' cx cy ≤ 2305843009213693952 := by
  unfold crossI
  split
  · rename_i h
    simp only [Bool.and_eq_true] at h
    obtain ⟨⟨h1, h2⟩, h3⟩ := h
    have ⟨a1, a2⟩ := mayB_x h1
    have ⟨a3, a4⟩ := mayB_y h1
    have ⟨a5, a6⟩ := mayB_x h2
    have ⟨a7, a8⟩ := mayB_y h2
    have ⟨a9, a10⟩ := mayB_x h3
    have ⟨a11, a12⟩ := mayB_y h3
    have ⟨m1, m2⟩ := mul_bd (x := bx - ax) (y := cy - ay) (by omega) (by omega)
    have ⟨m3, m4⟩ := mul_bd (x := by' - ay) (y := cx - ax) (by omega) (by omega)
    omega
  · omega

theorem turn_facts (ax ay bx by' cx cy q : Int) (h : (mayB ax ay && mayB bx by' && mayB cx cy) = true) :
    crossI bx by' ax ay cx cy = -crossI ax ay bx by' cx cy ∧ crossI bx by' cx cy ax ay = crossI ax ay bx by' cx cy ∧
    crossI (turnX ax ay q) (turnY ax ay q) (turnX bx by' q) (turnY bx by' q) (turnX cx cy q) (turnY cx cy q) = crossI ax ay bx by' cx cy ∧
    dotI (turnX ax ay q) (turnY ax ay q) (turnX bx by' q) (turnY bx by' q) (turnX bx by' q) (turnY bx by' q) = dotI ax ay bx by' bx by' ∧
    (dotI ax ay bx by' bx by' == 0) = (decide (ax = bx) && decide (ay = by')) ∧ IntKind.i64.wrap (-crossI ax ay bx by' cx cy) = -crossI ax ay bx by' cx cy ∧ -2305843009213693952 ≤ crossI ax ay bx by' cx cy ∧ crossI ax ay bx by' cx cy ≤ 2305843009213693952 := by
  have hb := cross_bd ax ay bx by' cx cy
  have h' := h
  simp only [Bool.and_eq_true] at h'
  obtain ⟨⟨h1, h2⟩, h3⟩ := h'
  refine ⟨?_, ?_, ?_, ?_, ?_, IntWalk.i64_in _ (by omega), hb.1, hb.2⟩
  · unfold crossI
    rw [h1, h2, h3]
    simp only [Bool.and_self, if_true]
    simp only [Int.sub_mul, Int.mul_sub]
    rw [Int.mul_comm by' cx, Int.mul_comm by' ax, Int.mul_comm ay cx, Int.mul_comm ay ax, Int.mul_comm ay bx, Int.mul_comm by' bx]
    omega
  · unfold crossI
    rw [h1, h2, h3]
    simp only [Bool.and_self, if_true]
    simp only [Int.sub_mul, Int.mul_sub]
    rw [Int.mul_comm cy ax, Int.mul_comm cy bx, Int.mul_comm by' ax, Int.mul_comm by' bx, Int.mul_comm by' cx, Int.mul_comm ay cx, Int.mul_comm ay ax]
    omega
  · have hm : (mayB (turnX ax ay q) (turnY ax ay q) && mayB (turnX bx by' q) (turnY bx by' q) && mayB (turnX cx cy q) (turnY cx cy q)) = true := by
      simp only [Bool.and_eq_true, may_iff]
      obtain ⟨p1, p2⟩ := may_iff.1 h1
      obtain ⟨p3, p4⟩ := may_iff.1 h2
      obtain ⟨p5, p6⟩ := may_iff.1 h3
      rcases turn_cases ax ay bx by' cx cy q h1 h2 h3 with e | e | e | e <;> obtain ⟨e1, e2, e3, e4, e5, e6⟩ := e <;> rw [e1, e2, e3, e4, e5, e6] <;> refine ⟨⟨⟨?_, ?_⟩, ⟨?_, ?_⟩⟩, ⟨?_, ?_⟩⟩ <;> first | assumption | (apply okI_neg; assumption)
    unfold crossI
    rw [hm, h, if_pos rfl, if_pos rfl]
    rcases turn_cases ax ay bx by' cx cy q h1 h2 h3 with e | e | e | e <;> obtain ⟨e1, e2, e3, e4, e5, e6⟩ := e <;> rw [e1, e2, e3, e4, e5, e6]
    · exact cross_turn ax ay bx by' cx cy
    · exact cross_turn2 ax ay bx by' cx cy
    · exact cross_turn3 ax ay bx by' cx cy
  · have hm : (mayB (turnX ax ay q) (turnY ax ay q) && mayB (turnX bx by' q) (turnY bx by' q) && mayB (turnX bx by' q) (turnY bx by' q)) = true := by
      simp only [Bool.and_eq_true, may_iff]
      obtain ⟨p1, p2⟩ := may_iff.1 h1
      obtain ⟨p3, p4⟩ := may_iff.1 h2
      obtain ⟨p5, p6⟩ := may_iff.1 h3
      rcases turn_cases ax ay bx by' cx cy q h1 h2 h3 with e | e | e | e <;> obtain ⟨e1, e2, e3, e4, e5, e6⟩ := e <;> rw [e1, e2, e3, e4] <;> refine ⟨⟨⟨?_, ?_⟩, ⟨?_, ?_⟩⟩, ⟨?_, ?_⟩⟩ <;> first | assumption | (apply okI_neg; assumption)
    unfold dotI
    rw [hm, h1, h2]
    simp only [Bool.and_self, if_true]
    rcases turn_cases ax ay bx by' cx cy q h1 h2 h3 with e | e | e | e <;> obtain ⟨e1, e2, e3, e4, e5, e6⟩ := e <;> rw [e1, e2, e3, e4]
    · rw [show -by' - -ay = -(by' - ay) by omega, Int.neg_mul_neg]; omega
    · rw [show -by' - -ay = -(by' - ay) by omega, show -bx - -ax = -(bx - ax) by omega]; exact sq_turn _ _
    · rw [show -bx - -ax = -(bx - ax) by omega, Int.neg_mul_neg]; omega
  · unfold dotI
    rw [h1, h2]
    simp only [Bool.and_self, if_true]
    rw [Bool.eq_iff_iff]
    simp only [beq_iff_eq, Bool.and_eq_true, decide_eq_true_eq]
    constructor
    · intro e
      have ⟨a, b⟩ := sq_zero e
      omega
    · rintro ⟨rfl, rfl⟩
      simp

end Go.Proofs.Ytcpjgcpclekjkaa
