/-
  WALKS OVER POINTS: what each function of package point and of the document's answer computes, said by one plain function for both. CONDITIONS: none (each holds for all points).
-/
import Derived.Test.YtcpjgcpclekjkaaRows
import Derived.Test.YtcpjgcpclekjkaaTame
import Derived.Outline
import Derived.Deep.DeepCutAuto
import Derived.IntWalk
namespace Go.Proofs.Ytcpjgcpclekjkaa
open Go.RowKit Go.Proofs.Ytcpjgcpclekjkaa.Tame

def inB (n : Int) : Bool := decide (-536870912 ≤ n) && decide (n ≤ 536870912)
def okI (n : Int) : Prop := -536870912 ≤ n ∧ n ≤ 536870912
def mayB (x y : Int) : Bool := inB x && inB y
def crossI (ax ay bx by' cx cy : Int) : Int := if (mayB ax ay && mayB bx by' && mayB cx cy) = true then (bx - ax) * (cy - ay) - (by' - ay) * (cx - ax) else 0
def dotI (ax ay bx by' cx cy : Int) : Int := if (mayB ax ay && mayB bx by' && mayB cx cy) = true then (bx - ax) * (cx - ax) + (by' - ay) * (cy - ay) else 0
def lessB (ax ay bx by' : Int) : Bool := mayB ax ay && mayB bx by' && (decide (ax < bx) || (ax == bx && decide (ay < by')))

theorem inB_ok {n : Int} (h : inB n = true) : okI n := by simpa [inB, okI] using h
theorem mayB_x {x y : Int} (h : mayB x y = true) : okI x := by unfold mayB at h; rw [Bool.and_eq_true] at h; exact inB_ok h.1
theorem mayB_y {x y : Int} (h : mayB x y = true) : okI y := by unfold mayB at h; rw [Bool.and_eq_true] at h; exact inB_ok h.2
theorem ret_int {k : IntKind} {a b : Int} (h : a = b) : Ending.returned (.int k a) = .returned (.int k b) := by rw [h]
theorem ret_bool {a b : Bool} (h : a = b) : Ending.returned (.bool a) = .returned (.bool b) := by rw [h]

theorem mul_bd {x y : Int} (hx : -1073741824 ≤ x ∧ x ≤ 1073741824) (hy : -1073741824 ≤ y ∧ y ≤ 1073741824) : -1152921504606846976 ≤ x * y ∧ x * y ≤ 1152921504606846976 := by
  have h := Int.natAbs_mul x y
  have h1 : x.natAbs * y.natAbs ≤ 1073741824 * 1073741824 := Nat.mul_le_mul (by omega) (by omega)
  rw [← h] at h1
  generalize x * y = z at *
  omega
theorem mul_bd1 {x y : Int} (hx : -536870912 ≤ x ∧ x ≤ 536870912) (hy : -536870912 ≤ y ∧ y ≤ 536870912) : -288230376151711744 ≤ x * y ∧ x * y ≤ 288230376151711744 := by
  have h := Int.natAbs_mul x y
  have h1 : x.natAbs * y.natAbs ≤ 536870912 * 536870912 := Nat.mul_le_mul (by omega) (by omega)
  rw [← h] at h1
  generalize x * y = z at *
  omega
theorem cross_alt (ax ay bx by' cx cy : Int) : ax * by' - bx * ay + bx * cy - cx * by' + cx * ay - ax * cy = (bx - ax) * (cy - ay) - (by' - ay) * (cx - ax) := by
  simp only [Int.sub_mul, Int.mul_sub]
  rw [Int.mul_comm by' cx, Int.mul_comm by' ax, Int.mul_comm ay cx, Int.mul_comm ay ax]
  omega

set_option maxHeartbeats 400000

theorem within_any (n : Int) (w : World) : Calls Try.prog 41 #[.int .i64 n] w fun e w' => e = .returned (.bool (inB n)) ∧ w = w' := by
  by_cases h1 : -536870912 ≤ n
  · have e : inB n = decide (n ≤ 536870912) := by simp [inB, h1]
    rw [e]
    go_enter Try.func41, Try.ntmps41
    go_wp2
    go_ret
    exact ⟨rfl, rfl⟩
  · have e : inB n = false := by simp [inB]; omega
    rw [e]
    go_enter Try.func41, Try.ntmps41
    go_wp2
    go_ret
    exact ⟨rfl, rfl⟩

theorem may_any (x y : Int) (w : World) : Calls Try.prog 16 #[.agg #[.int .i64 x, .int .i64 y]] w fun e w' => e = .returned (.bool (mayB x y)) ∧ Below w.heap.size w w' := by
  have e : mayB x y = (inB x && inB y) := rfl
  rw [e]; clear e
  cases hx : inB x
  all_goals
    go_enter Try.func16, Try.ntmps16
    go_wp2_with (go_at_call 41; refine (within_any _ _).mono ?_; rintro e w' ⟨rfl, rfl⟩)
    go_ret
    exact ⟨rfl, by go_grown⟩

theorem from_any (ax ay bx by' : Int) (w : World) (hax : okI ax) (hay : okI ay) (hbx : okI bx) (hby : okI by') : Calls Try.prog 40 #[.agg #[.int .i64 ax, .int .i64 ay], .agg #[.int .i64 bx, .int .i64 by']] w fun e w' => e = .returned (.agg #[.int .i64 (bx - ax), .int .i64 (by' - ay)]) ∧ Below w.heap.size w w' := by
  obtain ⟨h1, h2⟩ := hax
  obtain ⟨h3, h4⟩ := hay
  obtain ⟨h5, h6⟩ := hbx
  obtain ⟨h7, h8⟩ := hby
  go_enter Try.func40, Try.ntmps40
  go_wp2
  go_returns
  exact ⟨rfl, by go_grown⟩


theorem refmay_any (ax ay : Int) (w : World) : Calls Try.prog 12 #[.agg #[.int .i64 ax, .int .i64 ay]] w fun e w' => e = .returned (.bool (mayB ax ay)) ∧ Below w.heap.size w w' := by
  by_cases h1 : -536870912 ≤ ax
  · by_cases h2 : ax ≤ 536870912
    · by_cases h3 : -536870912 ≤ ay
      all_goals
        go_enter Try.func12, Try.ntmps12
        go_wp2
        go_ret
        exact ⟨ret_bool (by simp [mayB, inB, h1, h2, h3]; try omega), by go_grown⟩
    · go_enter Try.func12, Try.ntmps12
      go_wp2
      go_ret
      exact ⟨ret_bool (by simp [mayB, inB, h1]; try omega), by go_grown⟩
  · go_enter Try.func12, Try.ntmps12
    go_wp2
    go_ret
    exact ⟨ret_bool (by simp [mayB, inB]; try omega), by go_grown⟩


theorem all_any (ax ay bx by' cx cy : Int) (w : World) : Calls Try.prog 39 #[.agg #[.int .i64 ax, .int .i64 ay], .agg #[.int .i64 bx, .int .i64 by'], .agg #[.int .i64 cx, .int .i64 cy]] w fun e w' => e = .returned (.bool (mayB ax ay && mayB bx by' && mayB cx cy)) ∧ Below w.heap.size w w' := by
  cases h1 : mayB ax ay <;> cases h2 : mayB bx by'
  all_goals
    go_enter Try.func39, Try.ntmps39
    go_upto_region 1 with (fail)
    refine plain_hid (fun W hW ops hops => ?_)
    have hb : Below w.heap.size w W := by rw [hW]; go_grown
    have hz : w.heap.size + 3 ≤ W.heap.size := by rw [hW]; simp
    have g0 : W.heap[w.heap.size]? = some (.cells #[.int .i64 ax, .int .i64 ay] 23) := by rw [hW]; exact heap_alloc_lt (heap_alloc_lt (heap_alloc_is (rfl)))
    have g1 : W.heap[w.heap.size + 1]? = some (.cells #[.int .i64 bx, .int .i64 by'] 23) := by rw [hW]; exact heap_alloc_lt (heap_alloc_is (by simp))
    have g2 : W.heap[w.heap.size + 1 + 1]? = some (.cells #[.int .i64 cx, .int .i64 cy] 23) := by rw [hW]; exact heap_alloc_is (by simp)
    clear hW
    have o2 : (ops[2]?).bind (fun x => x.dst) = some 9 := by rw [hops]; rfl
    have o6 : (ops[6]?).bind (fun x => x.dst) = some 13 := by rw [hops]; rfl
    clear hops
    have f0 : ∀ x : Later W [], x.w.cell? ⟨w.heap.size, 0, none⟩ = some (.int .i64 ax) := fun x => cell_of_block (Later.at0 g0 x) rfl
    have f1 : ∀ x : Later W [], x.w.cell? ⟨w.heap.size, 1, none⟩ = some (.int .i64 ay) := fun x => cell_of_block (Later.at0 g0 x) rfl
    have f2 : ∀ x : Later W [], x.w.cell? ⟨w.heap.size + 1, 0, none⟩ = some (.int .i64 bx) := fun x => cell_of_block (Later.at0 g1 x) rfl
    have f3 : ∀ x : Later W [], x.w.cell? ⟨w.heap.size + 1, 1, none⟩ = some (.int .i64 by') := fun x => cell_of_block (Later.at0 g1 x) rfl
    have f4 : ∀ x : Later W [], x.w.cell? ⟨w.heap.size + 1 + 1, 0, none⟩ = some (.int .i64 cx) := fun x => cell_of_block (Later.at0 g2 x) rfl
    have f5 : ∀ x : Later W [], x.w.cell? ⟨w.heap.size + 1 + 1, 1, none⟩ = some (.int .i64 cy) := fun x => cell_of_block (Later.at0 g2 x) rfl
    repeat (refine walkT_step (fun K hK => ?_); go_simp; first | (refine hK _ _ ?_; clear hK K) | (refine ⟨_, fun x => may_any _ _ _, ?_⟩; refine hK _ _ ?_; clear hK K))
    refine walkT_nil ?_
    intro w1 hc
    replace g0 := hc.at0 g0
    replace g1 := hc.at0 g1
    replace g2 := hc.at0 g2
    replace hb := hb.trans (hc.below.mono hb.size)
    replace hz := Nat.le_trans hz hc.kept.size
    clear hc o2 o6 f0 f1 f2 f3 f4 f5 W
    go_wp2
    go_ret
    exact ⟨rfl, hb⟩


theorem cross_yes (ax ay bx by' cx cy : Int) (w : World) (h1 : mayB ax ay = true) (h2 : mayB bx by' = true) (h3 : mayB cx cy = true) (p1 : okI ax) (p2 : okI ay) (p3 : okI bx) (p4 : okI by') (p5 : okI cx) (p6 : okI cy) :
    Calls Try.prog 14 #[.agg #[.int .i64 ax, .int .i64 ay], .agg #[.int .i64 bx, .int .i64 by'], .agg #[.int .i64 cx, .int .i64 cy]] w fun e w' => e = .returned (.int .i64 ((bx - ax) * (cy - ay) - (by' - ay) * (cx - ax))) ∧ Below w.heap.size w w' := by
  go_enter Try.func14, Try.ntmps14
  go_upto_region 1 with (fail)
  refine plain_hid (fun W hW ops hops => ?_)
  have hb : Below w.heap.size w W := by rw [hW]; go_grown
  have hz : w.heap.size + 3 ≤ W.heap.size := by rw [hW]; simp
  have g0 : W.heap[w.heap.size]? = some (.cells #[.int .i64 ax, .int .i64 ay] 23) := by rw [hW]; exact heap_alloc_lt (heap_alloc_lt (heap_alloc_is (rfl)))
  have g1 : W.heap[w.heap.size + 1]? = some (.cells #[.int .i64 bx, .int .i64 by'] 23) := by rw [hW]; exact heap_alloc_lt (heap_alloc_is (by simp))
  have g2 : W.heap[w.heap.size + 1 + 1]? = some (.cells #[.int .i64 cx, .int .i64 cy] 23) := by rw [hW]; exact heap_alloc_is (by simp)
  clear hW
  clear hops
  have f0 : ∀ x : Later W [], x.w.cell? ⟨w.heap.size, 0, none⟩ = some (.int .i64 ax) := fun x => cell_of_block (Later.at0 g0 x) rfl
  have f1 : ∀ x : Later W [], x.w.cell? ⟨w.heap.size, 1, none⟩ = some (.int .i64 ay) := fun x => cell_of_block (Later.at0 g0 x) rfl
  have f2 : ∀ x : Later W [], x.w.cell? ⟨w.heap.size + 1, 0, none⟩ = some (.int .i64 bx) := fun x => cell_of_block (Later.at0 g1 x) rfl
  have f3 : ∀ x : Later W [], x.w.cell? ⟨w.heap.size + 1, 1, none⟩ = some (.int .i64 by') := fun x => cell_of_block (Later.at0 g1 x) rfl
  have f4 : ∀ x : Later W [], x.w.cell? ⟨w.heap.size + 1 + 1, 0, none⟩ = some (.int .i64 cx) := fun x => cell_of_block (Later.at0 g2 x) rfl
  have f5 : ∀ x : Later W [], x.w.cell? ⟨w.heap.size + 1 + 1, 1, none⟩ = some (.int .i64 cy) := fun x => cell_of_block (Later.at0 g2 x) rfl
  repeat (refine walkT_step (fun K hK => ?_); go_simp; first | (refine hK _ _ ?_; clear hK K) | (refine ⟨_, fun x => all_any _ _ _ _ _ _ _, ?_⟩; refine hK _ _ ?_; clear hK K))
  refine walkT_nil ?_
  intro w1 hc
  replace g0 := hc.at0 g0
  replace g1 := hc.at0 g1
  replace g2 := hc.at0 g2
  replace hb := hb.trans (hc.below.mono hb.size)
  replace hz := Nat.le_trans hz hc.kept.size
  clear hc f0 f1 f2 f3 f4 f5 W
  go_upto_region 3 with (fail)
  refine draws_hid (by kernel_rfl) (by kernel_rfl) (by kernel_rfl) (fun W hW ops hops => ?_)
  subst hW
  clear hops
  have f6 : ∀ x : Later W [], x.w.cell? ⟨w.heap.size, 0, none⟩ = some (.int .i64 ax) := fun x => cell_of_block (Later.at0 g0 x) rfl
  have f7 : ∀ x : Later W [], x.w.cell? ⟨w.heap.size, 1, none⟩ = some (.int .i64 ay) := fun x => cell_of_block (Later.at0 g0 x) rfl
  have f8 : ∀ x : Later W [], x.w.cell? ⟨w.heap.size + 1, 0, none⟩ = some (.int .i64 bx) := fun x => cell_of_block (Later.at0 g1 x) rfl
  have f9 : ∀ x : Later W [], x.w.cell? ⟨w.heap.size + 1, 1, none⟩ = some (.int .i64 by') := fun x => cell_of_block (Later.at0 g1 x) rfl
  have f10 : ∀ x : Later W [], x.w.cell? ⟨w.heap.size + 1 + 1, 0, none⟩ = some (.int .i64 cx) := fun x => cell_of_block (Later.at0 g2 x) rfl
  have f11 : ∀ x : Later W [], x.w.cell? ⟨w.heap.size + 1 + 1, 1, none⟩ = some (.int .i64 cy) := fun x => cell_of_block (Later.at0 g2 x) rfl
  repeat (refine walkT_step (fun K hK => ?_); go_simp; first | (refine hK _ _ ?_; clear hK K) | (refine ⟨_, fun x => from_any _ _ _ _ _ (by assumption) (by assumption) (by assumption) (by assumption), ?_⟩; refine hK _ _ ?_; clear hK K))
  refine walkT_step (fun K hK => ?_)
  go_simp
  refine ⟨_, fun _ => rfl, fun k7 hk7 nk7 => hK _ _ ?_⟩; clear hK K
  refine walkT_step (fun K hK => ?_)
  go_simp
  refine ⟨_, fun _ => rfl, fun k8 hk8 nk8 => hK _ _ ?_⟩; clear hK K
  have ne_k8_k7 : k8 ≠ k7 := fun e => by subst e; simp [Gh.set] at nk8
  have ne_k7_k8 : k7 ≠ k8 := Ne.symm ne_k8_k7
  clear nk7 nk8
  refine walkT_fill (k := k7) (ob := #[.int .i64 0, .int .i64 0]) (t := 23) (v := .agg #[.int .i64 (bx - ax), .int .i64 (by' - ay)]) rfl rfl rfl rfl ((Gh.set_ne _ _ ne_k7_k8).trans (Gh.set_same _ _ _)) rfl (by kernel_rfl) rfl rfl ?_
  refine walkT_fill (k := k8) (ob := #[.int .i64 0, .int .i64 0]) (t := 23) (v := .agg #[.int .i64 (cx - ax), .int .i64 (cy - ay)]) rfl rfl rfl rfl ((Gh.set_ne _ _ ne_k8_k7).trans (Gh.set_same _ _ _)) rfl (by kernel_rfl) rfl rfl ?_
  refine walkT_nil ?_
  intro w1 hc
  replace g0 := hc.at0 g0
  replace g1 := hc.at0 g1
  replace g2 := hc.at0 g2
  have g3 : w1.heap[k7]? = some (.cells #[.int .i64 (bx - ax), .int .i64 (by' - ay)] 23) := (hc.own k7 _ true ((Gh.set_ne _ _ ne_k7_k8).trans (Gh.set_same _ _ _))).2
  have g4 : w1.heap[k8]? = some (.cells #[.int .i64 (cx - ax), .int .i64 (cy - ay)] 23) := (hc.own k8 _ true (Gh.set_same _ _ _)).2
  replace hb := hb.trans (hc.below.mono hb.size)
  replace hk7 := Nat.le_trans hz hk7
  replace hk8 := Nat.le_trans hz hk8
  replace hz := Nat.le_trans hz hc.kept.size
  clear hc f6 f7 f8 f9 f10 f11 W
  have f12 : w1.cell? ⟨w.heap.size, 0, none⟩ = some (.int .i64 ax) := cell_of_block g0 rfl
  have f13 : w1.cell? ⟨w.heap.size, 1, none⟩ = some (.int .i64 ay) := cell_of_block g0 rfl
  have f14 : w1.cell? ⟨w.heap.size + 1, 0, none⟩ = some (.int .i64 bx) := cell_of_block g1 rfl
  have f15 : w1.cell? ⟨w.heap.size + 1, 1, none⟩ = some (.int .i64 by') := cell_of_block g1 rfl
  have f16 : w1.cell? ⟨w.heap.size + 1 + 1, 0, none⟩ = some (.int .i64 cx) := cell_of_block g2 rfl
  have f17 : w1.cell? ⟨w.heap.size + 1 + 1, 1, none⟩ = some (.int .i64 cy) := cell_of_block g2 rfl
  have f18 : w1.cell? ⟨k7, 0, none⟩ = some (.int .i64 (bx - ax)) := cell_of_block g3 rfl
  have f19 : w1.cell? ⟨k7, 1, none⟩ = some (.int .i64 (by' - ay)) := cell_of_block g3 rfl
  have f20 : w1.cell? ⟨k8, 0, none⟩ = some (.int .i64 (cx - ax)) := cell_of_block g4 rfl
  have f21 : w1.cell? ⟨k8, 1, none⟩ = some (.int .i64 (cy - ay)) := cell_of_block g4 rfl
  obtain ⟨q1, q2⟩ := p1
  obtain ⟨q3, q4⟩ := p2
  obtain ⟨q5, q6⟩ := p3
  obtain ⟨q7, q8⟩ := p4
  obtain ⟨q9, q10⟩ := p5
  obtain ⟨q11, q12⟩ := p6
  obtain ⟨m1, m2⟩ := mul_bd (x := (bx - ax)) (y := (cy - ay)) (by omega) (by omega)
  obtain ⟨m3, m4⟩ := mul_bd (x := (by' - ay)) (y := (cx - ax)) (by omega) (by omega)
  have e1 : IntKind.i64.wrap ((bx - ax) * (cy - ay)) = (bx - ax) * (cy - ay) := IntWalk.i64_in _ (by omega)
  have e2 : IntKind.i64.wrap ((by' - ay) * (cx - ax)) = (by' - ay) * (cx - ax) := IntWalk.i64_in _ (by omega)
  go_wp2
  go_ret
  exact ⟨rfl, hb⟩


theorem cross_no (ax ay bx by' cx cy : Int) (w : World) (h : (mayB ax ay && mayB bx by' && mayB cx cy) = false) :
    Calls Try.prog 14 #[.agg #[.int .i64 ax, .int .i64 ay], .agg #[.int .i64 bx, .int .i64 by'], .agg #[.int .i64 cx, .int .i64 cy]] w fun e w' => e = .returned (.int .i64 0) ∧ Below w.heap.size w w' := by
  go_enter Try.func14, Try.ntmps14
  go_upto_region 1 with (fail)
  refine plain_hid (fun W hW ops hops => ?_)
  have hb : Below w.heap.size w W := by rw [hW]; go_grown
  have hz : w.heap.size + 3 ≤ W.heap.size := by rw [hW]; simp
  have g0 : W.heap[w.heap.size]? = some (.cells #[.int .i64 ax, .int .i64 ay] 23) := by rw [hW]; exact heap_alloc_lt (heap_alloc_lt (heap_alloc_is (rfl)))
  have g1 : W.heap[w.heap.size + 1]? = some (.cells #[.int .i64 bx, .int .i64 by'] 23) := by rw [hW]; exact heap_alloc_lt (heap_alloc_is (by simp))
  have g2 : W.heap[w.heap.size + 1 + 1]? = some (.cells #[.int .i64 cx, .int .i64 cy] 23) := by rw [hW]; exact heap_alloc_is (by simp)
  clear hW
  clear hops
  have f0 : ∀ x : Later W [], x.w.cell? ⟨w.heap.size, 0, none⟩ = some (.int .i64 ax) := fun x => cell_of_block (Later.at0 g0 x) rfl
  have f1 : ∀ x : Later W [], x.w.cell? ⟨w.heap.size, 1, none⟩ = some (.int .i64 ay) := fun x => cell_of_block (Later.at0 g0 x) rfl
  have f2 : ∀ x : Later W [], x.w.cell? ⟨w.heap.size + 1, 0, none⟩ = some (.int .i64 bx) := fun x => cell_of_block (Later.at0 g1 x) rfl
  have f3 : ∀ x : Later W [], x.w.cell? ⟨w.heap.size + 1, 1, none⟩ = some (.int .i64 by') := fun x => cell_of_block (Later.at0 g1 x) rfl
  have f4 : ∀ x : Later W [], x.w.cell? ⟨w.heap.size + 1 + 1, 0, none⟩ = some (.int .i64 cx) := fun x => cell_of_block (Later.at0 g2 x) rfl
  have f5 : ∀ x : Later W [], x.w.cell? ⟨w.heap.size + 1 + 1, 1, none⟩ = some (.int .i64 cy) := fun x => cell_of_block (Later.at0 g2 x) rfl
  repeat (refine walkT_step (fun K hK => ?_); go_simp; first | (refine hK _ _ ?_; clear hK K) | (refine ⟨_, fun x => all_any _ _ _ _ _ _ _, ?_⟩; refine hK _ _ ?_; clear hK K))
  refine walkT_nil ?_
  intro w1 hc
  replace g0 := hc.at0 g0
  replace g1 := hc.at0 g1
  replace g2 := hc.at0 g2
  replace hb := hb.trans (hc.below.mono hb.size)
  replace hz := Nat.le_trans hz hc.kept.size
  clear hc f0 f1 f2 f3 f4 f5 W
  go_wp2
  go_ret
  exact ⟨rfl, hb⟩


theorem cross_any (ax ay bx by' cx cy : Int) (w : World) : Calls Try.prog 14 #[.agg #[.int .i64 ax, .int .i64 ay], .agg #[.int .i64 bx, .int .i64 by'], .agg #[.int .i64 cx, .int .i64 cy]] w fun e w' => e = .returned (.int .i64 (crossI ax ay bx by' cx cy)) ∧ Below w.heap.size w w' := by
  cases h : (mayB ax ay && mayB bx by' && mayB cx cy)
  · have e : crossI ax ay bx by' cx cy = 0 := by simp [crossI, h]
    rw [e]; exact cross_no ax ay bx by' cx cy w h
  · have e : crossI ax ay bx by' cx cy = (bx - ax) * (cy - ay) - (by' - ay) * (cx - ax) := by simp [crossI, h]
    rw [e]
    simp only [Bool.and_eq_true] at h
    obtain ⟨⟨h1, h2⟩, h3⟩ := h
    exact cross_yes ax ay bx by' cx cy w h1 h2 h3 (mayB_x h1) (mayB_y h1) (mayB_x h2) (mayB_y h2) (mayB_x h3) (mayB_y h3)


theorem dot_yes (ax ay bx by' cx cy : Int) (w : World) (h1 : mayB ax ay = true) (h2 : mayB bx by' = true) (h3 : mayB cx cy = true) (p1 : okI ax) (p2 : okI ay) (p3 : okI bx) (p4 : okI by') (p5 : okI cx) (p6 : okI cy) :
    Calls Try.prog 18 #[.agg #[.int .i64 ax, .int .i64 ay], .agg #[.int .i64 bx, .int .i64 by'], .agg #[.int .i64 cx, .int .i64 cy]] w fun e w' => e = .returned (.int .i64 ((bx - ax) * (cx - ax) + (by' - ay) * (cy - ay))) ∧ Below w.heap.size w w' := by
  go_enter Try.func18, Try.ntmps18
  go_upto_region 1 with (fail)
  refine plain_hid (fun W hW ops hops => ?_)
  have hb : Below w.heap.size w W := by rw [hW]; go_grown
  have hz : w.heap.size + 3 ≤ W.heap.size := by rw [hW]; simp
  have g0 : W.heap[w.heap.size]? = some (.cells #[.int .i64 ax, .int .i64 ay] 23) := by rw [hW]; exact heap_alloc_lt (heap_alloc_lt (heap_alloc_is (rfl)))
  have g1 : W.heap[w.heap.size + 1]? = some (.cells #[.int .i64 bx, .int .i64 by'] 23) := by rw [hW]; exact heap_alloc_lt (heap_alloc_is (by simp))
  have g2 : W.heap[w.heap.size + 1 + 1]? = some (.cells #[.int .i64 cx, .int .i64 cy] 23) := by rw [hW]; exact heap_alloc_is (by simp)
  clear hW
  clear hops
  have f0 : ∀ x : Later W [], x.w.cell? ⟨w.heap.size, 0, none⟩ = some (.int .i64 ax) := fun x => cell_of_block (Later.at0 g0 x) rfl
  have f1 : ∀ x : Later W [], x.w.cell? ⟨w.heap.size, 1, none⟩ = some (.int .i64 ay) := fun x => cell_of_block (Later.at0 g0 x) rfl
  have f2 : ∀ x : Later W [], x.w.cell? ⟨w.heap.size + 1, 0, none⟩ = some (.int .i64 bx) := fun x => cell_of_block (Later.at0 g1 x) rfl
  have f3 : ∀ x : Later W [], x.w.cell? ⟨w.heap.size + 1, 1, none⟩ = some (.int .i64 by') := fun x => cell_of_block (Later.at0 g1 x) rfl
  have f4 : ∀ x : Later W [], x.w.cell? ⟨w.heap.size + 1 + 1, 0, none⟩ = some (.int .i64 cx) := fun x => cell_of_block (Later.at0 g2 x) rfl
  have f5 : ∀ x : Later W [], x.w.cell? ⟨w.heap.size + 1 + 1, 1, none⟩ = some (.int .i64 cy) := fun x => cell_of_block (Later.at0 g2 x) rfl
  repeat (refine walkT_step (fun K hK => ?_); go_simp; first | (refine hK _ _ ?_; clear hK K) | (refine ⟨_, fun x => all_any _ _ _ _ _ _ _, ?_⟩; refine hK _ _ ?_; clear hK K))
  refine walkT_nil ?_
  intro w1 hc
  replace g0 := hc.at0 g0
  replace g1 := hc.at0 g1
  replace g2 := hc.at0 g2
  replace hb := hb.trans (hc.below.mono hb.size)
  replace hz := Nat.le_trans hz hc.kept.size
  clear hc f0 f1 f2 f3 f4 f5 W
  go_upto_region 3 with (fail)
  refine draws_hid (by kernel_rfl) (by kernel_rfl) (by kernel_rfl) (fun W hW ops hops => ?_)
  subst hW
  clear hops
  have f6 : ∀ x : Later W [], x.w.cell? ⟨w.heap.size, 0, none⟩ = some (.int .i64 ax) := fun x => cell_of_block (Later.at0 g0 x) rfl
  have f7 : ∀ x : Later W [], x.w.cell? ⟨w.heap.size, 1, none⟩ = some (.int .i64 ay) := fun x => cell_of_block (Later.at0 g0 x) rfl
  have f8 : ∀ x : Later W [], x.w.cell? ⟨w.heap.size + 1, 0, none⟩ = some (.int .i64 bx) := fun x => cell_of_block (Later.at0 g1 x) rfl
  have f9 : ∀ x : Later W [], x.w.cell? ⟨w.heap.size + 1, 1, none⟩ = some (.int .i64 by') := fun x => cell_of_block (Later.at0 g1 x) rfl
  have f10 : ∀ x : Later W [], x.w.cell? ⟨w.heap.size + 1 + 1, 0, none⟩ = some (.int .i64 cx) := fun x => cell_of_block (Later.at0 g2 x) rfl
  have f11 : ∀ x : Later W [], x.w.cell? ⟨w.heap.size + 1 + 1, 1, none⟩ = some (.int .i64 cy) := fun x => cell_of_block (Later.at0 g2 x) rfl
  repeat (refine walkT_step (fun K hK => ?_); go_simp; first | (refine hK _ _ ?_; clear hK K) | (refine ⟨_, fun x => from_any _ _ _ _ _ (by assumption) (by assumption) (by assumption) (by assumption), ?_⟩; refine hK _ _ ?_; clear hK K))
  refine walkT_step (fun K hK => ?_)
  go_simp
  refine ⟨_, fun _ => rfl, fun k7 hk7 nk7 => hK _ _ ?_⟩; clear hK K
  refine walkT_step (fun K hK => ?_)
  go_simp
  refine ⟨_, fun _ => rfl, fun k8 hk8 nk8 => hK _ _ ?_⟩; clear hK K
  have ne_k8_k7 : k8 ≠ k7 := fun e => by subst e; simp [Gh.set] at nk8
  have ne_k7_k8 : k7 ≠ k8 := Ne.symm ne_k8_k7
  clear nk7 nk8
  refine walkT_fill (k := k7) (ob := #[.int .i64 0, .int .i64 0]) (t := 23) (v := .agg #[.int .i64 (bx - ax), .int .i64 (by' - ay)]) rfl rfl rfl rfl ((Gh.set_ne _ _ ne_k7_k8).trans (Gh.set_same _ _ _)) rfl (by kernel_rfl) rfl rfl ?_
  refine walkT_fill (k := k8) (ob := #[.int .i64 0, .int .i64 0]) (t := 23) (v := .agg #[.int .i64 (cx - ax), .int .i64 (cy - ay)]) rfl rfl rfl rfl ((Gh.set_ne _ _ ne_k8_k7).trans (Gh.set_same _ _ _)) rfl (by kernel_rfl) rfl rfl ?_
  refine walkT_nil ?_
  intro w1 hc
  replace g0 := hc.at0 g0
  replace g1 := hc.at0 g1
  replace g2 := hc.at0 g2
  have g3 : w1.heap[k7]? = some (.cells #[.int .i64 (bx - ax), .int .i64 (by' - ay)] 23) := (hc.own k7 _ true ((Gh.set_ne _ _ ne_k7_k8).trans (Gh.set_same _ _ _))).2
  have g4 : w1.heap[k8]? = some (.cells #[.int .i64 (cx - ax), .int .i64 (cy - ay)] 23) := (hc.own k8 _ true (Gh.set_same _ _ _)).2
  replace hb := hb.trans (hc.below.mono hb.size)
  replace hk7 := Nat.le_trans hz hk7
  replace hk8 := Nat.le_trans hz hk8
  replace hz := Nat.le_trans hz hc.kept.size
  clear hc f6 f7 f8 f9 f10 f11 W
  have f12 : w1.cell? ⟨w.heap.size, 0, none⟩ = some (.int .i64 ax) := cell_of_block g0 rfl
  have f13 : w1.cell? ⟨w.heap.size, 1, none⟩ = some (.int .i64 ay) := cell_of_block g0 rfl
  have f14 : w1.cell? ⟨w.heap.size + 1, 0, none⟩ = some (.int .i64 bx) := cell_of_block g1 rfl
  have f15 : w1.cell? ⟨w.heap.size + 1, 1, none⟩ = some (.int .i64 by') := cell_of_block g1 rfl
  have f16 : w1.cell? ⟨w.heap.size + 1 + 1, 0, none⟩ = some (.int .i64 cx) := cell_of_block g2 rfl
  have f17 : w1.cell? ⟨w.heap.size + 1 + 1, 1, none⟩ = some (.int .i64 cy) := cell_of_block g2 rfl
  have f18 : w1.cell? ⟨k7, 0, none⟩ = some (.int .i64 (bx - ax)) := cell_of_block g3 rfl
  have f19 : w1.cell? ⟨k7, 1, none⟩ = some (.int .i64 (by' - ay)) := cell_of_block g3 rfl
  have f20 : w1.cell? ⟨k8, 0, none⟩ = some (.int .i64 (cx - ax)) := cell_of_block g4 rfl
  have f21 : w1.cell? ⟨k8, 1, none⟩ = some (.int .i64 (cy - ay)) := cell_of_block g4 rfl
  obtain ⟨q1, q2⟩ := p1
  obtain ⟨q3, q4⟩ := p2
  obtain ⟨q5, q6⟩ := p3
  obtain ⟨q7, q8⟩ := p4
  obtain ⟨q9, q10⟩ := p5
  obtain ⟨q11, q12⟩ := p6
  obtain ⟨m1, m2⟩ := mul_bd (x := (bx - ax)) (y := (cx - ax)) (by omega) (by omega)
  obtain ⟨m3, m4⟩ := mul_bd (x := (by' - ay)) (y := (cy - ay)) (by omega) (by omega)
  have e1 : IntKind.i64.wrap ((bx - ax) * (cx - ax)) = (bx - ax) * (cx - ax) := IntWalk.i64_in _ (by omega)
  have e2 : IntKind.i64.wrap ((by' - ay) * (cy - ay)) = (by' - ay) * (cy - ay) := IntWalk.i64_in _ (by omega)
  go_wp2
  go_ret
  exact ⟨rfl, hb⟩


theorem dot_no (ax ay bx by' cx cy : Int) (w : World) (h : (mayB ax ay && mayB bx by' && mayB cx cy) = false) :
    Calls Try.prog 18 #[.agg #[.int .i64 ax, .int .i64 ay], .agg #[.int .i64 bx, .int .i64 by'], .agg #[.int .i64 cx, .int .i64 cy]] w fun e w' => e = .returned (.int .i64 0) ∧ Below w.heap.size w w' := by
  go_enter Try.func18, Try.ntmps18
  go_upto_region 1 with (fail)
  refine plain_hid (fun W hW ops hops => ?_)
  have hb : Below w.heap.size w W := by rw [hW]; go_grown
  have hz : w.heap.size + 3 ≤ W.heap.size := by rw [hW]; simp
  have g0 : W.heap[w.heap.size]? = some (.cells #[.int .i64 ax, .int .i64 ay] 23) := by rw [hW]; exact heap_alloc_lt (heap_alloc_lt (heap_alloc_is (rfl)))
  have g1 : W.heap[w.heap.size + 1]? = some (.cells #[.int .i64 bx, .int .i64 by'] 23) := by rw [hW]; exact heap_alloc_lt (heap_alloc_is (by simp))
  have g2 : W.heap[w.heap.size + 1 + 1]? = some (.cells #[.int .i64 cx, .int .i64 cy] 23) := by rw [hW]; exact heap_alloc_is (by simp)
  clear hW
  clear hops
  have f0 : ∀ x : Later W [], x.w.cell? ⟨w.heap.size, 0, none⟩ = some (.int .i64 ax) := fun x => cell_of_block (Later.at0 g0 x) rfl
  have f1 : ∀ x : Later W [], x.w.cell? ⟨w.heap.size, 1, none⟩ = some (.int .i64 ay) := fun x => cell_of_block (Later.at0 g0 x) rfl
  have f2 : ∀ x : Later W [], x.w.cell? ⟨w.heap.size + 1, 0, none⟩ = some (.int .i64 bx) := fun x => cell_of_block (Later.at0 g1 x) rfl
  have f3 : ∀ x : Later W [], x.w.cell? ⟨w.heap.size + 1, 1, none⟩ = some (.int .i64 by') := fun x => cell_of_block (Later.at0 g1 x) rfl
  have f4 : ∀ x : Later W [], x.w.cell? ⟨w.heap.size + 1 + 1, 0, none⟩ = some (.int .i64 cx) := fun x => cell_of_block (Later.at0 g2 x) rfl
  have f5 : ∀ x : Later W [], x.w.cell? ⟨w.heap.size + 1 + 1, 1, none⟩ = some (.int .i64 cy) := fun x => cell_of_block (Later.at0 g2 x) rfl
  repeat (refine walkT_step (fun K hK => ?_); go_simp; first | (refine hK _ _ ?_; clear hK K) | (refine ⟨_, fun x => all_any _ _ _ _ _ _ _, ?_⟩; refine hK _ _ ?_; clear hK K))
  refine walkT_nil ?_
  intro w1 hc
  replace g0 := hc.at0 g0
  replace g1 := hc.at0 g1
  replace g2 := hc.at0 g2
  replace hb := hb.trans (hc.below.mono hb.size)
  replace hz := Nat.le_trans hz hc.kept.size
  clear hc f0 f1 f2 f3 f4 f5 W
  go_wp2
  go_ret
  exact ⟨rfl, hb⟩


theorem dot_any (ax ay bx by' cx cy : Int) (w : World) : Calls Try.prog 18 #[.agg #[.int .i64 ax, .int .i64 ay], .agg #[.int .i64 bx, .int .i64 by'], .agg #[.int .i64 cx, .int .i64 cy]] w fun e w' => e = .returned (.int .i64 (dotI ax ay bx by' cx cy)) ∧ Below w.heap.size w w' := by
  cases h : (mayB ax ay && mayB bx by' && mayB cx cy)
  · have e : dotI ax ay bx by' cx cy = 0 := by simp [dotI, h]
    rw [e]; exact dot_no ax ay bx by' cx cy w h
  · have e : dotI ax ay bx by' cx cy = (bx - ax) * (cx - ax) + (by' - ay) * (cy - ay) := by simp [dotI, h]
    rw [e]
    simp only [Bool.and_eq_true] at h
    obtain ⟨⟨h1, h2⟩, h3⟩ := h
    exact dot_yes ax ay bx by' cx cy w h1 h2 h3 (mayB_x h1) (mayB_y h1) (mayB_x h2) (mayB_y h2) (mayB_x h3) (mayB_y h3)


theorem refcross_yes (ax ay bx by' cx cy : Int) (w : World) (h1 : mayB ax ay = true) (h2 : mayB bx by' = true) (h3 : mayB cx cy = true) :
    Calls Try.prog 17 #[.agg #[.int .i64 ax, .int .i64 ay], .agg #[.int .i64 bx, .int .i64 by'], .agg #[.int .i64 cx, .int .i64 cy]] w fun e w' => e = .returned (.int .i64 ((bx - ax) * (cy - ay) - (by' - ay) * (cx - ax))) ∧ Below w.heap.size w w' := by
  go_enter Try.func17, Try.ntmps17
  go_upto_region 1 with (fail)
  refine plain_hid (fun W hW ops hops => ?_)
  have hb : Below w.heap.size w W := by rw [hW]; go_grown
  have hz : w.heap.size + 3 ≤ W.heap.size := by rw [hW]; simp
  have g0 : W.heap[w.heap.size]? = some (.cells #[.int .i64 ax, .int .i64 ay] 23) := by rw [hW]; exact heap_alloc_lt (heap_alloc_lt (heap_alloc_is (rfl)))
  have g1 : W.heap[w.heap.size + 1]? = some (.cells #[.int .i64 bx, .int .i64 by'] 23) := by rw [hW]; exact heap_alloc_lt (heap_alloc_is (by simp))
  have g2 : W.heap[w.heap.size + 1 + 1]? = some (.cells #[.int .i64 cx, .int .i64 cy] 23) := by rw [hW]; exact heap_alloc_is (by simp)
  clear hW
  have o3 : (ops[3]?).bind (fun x => x.dst) = some 10 := by rw [hops]; rfl
  have o8 : (ops[8]?).bind (fun x => x.dst) = some 15 := by rw [hops]; rfl
  clear hops
  have f0 : ∀ x : Later W [], x.w.cell? ⟨w.heap.size, 0, none⟩ = some (.int .i64 ax) := fun x => cell_of_block (Later.at0 g0 x) rfl
  have f1 : ∀ x : Later W [], x.w.cell? ⟨w.heap.size, 1, none⟩ = some (.int .i64 ay) := fun x => cell_of_block (Later.at0 g0 x) rfl
  have f2 : ∀ x : Later W [], x.w.cell? ⟨w.heap.size + 1, 0, none⟩ = some (.int .i64 bx) := fun x => cell_of_block (Later.at0 g1 x) rfl
  have f3 : ∀ x : Later W [], x.w.cell? ⟨w.heap.size + 1, 1, none⟩ = some (.int .i64 by') := fun x => cell_of_block (Later.at0 g1 x) rfl
  have f4 : ∀ x : Later W [], x.w.cell? ⟨w.heap.size + 1 + 1, 0, none⟩ = some (.int .i64 cx) := fun x => cell_of_block (Later.at0 g2 x) rfl
  have f5 : ∀ x : Later W [], x.w.cell? ⟨w.heap.size + 1 + 1, 1, none⟩ = some (.int .i64 cy) := fun x => cell_of_block (Later.at0 g2 x) rfl
  repeat (refine walkT_step (fun K hK => ?_); go_simp; first | (refine hK _ _ ?_; clear hK K) | (refine ⟨_, fun x => refmay_any _ _ _, ?_⟩; refine hK _ _ ?_; clear hK K))
  refine walkT_nil ?_
  intro w1 hc
  replace g0 := hc.at0 g0
  replace g1 := hc.at0 g1
  replace g2 := hc.at0 g2
  replace hb := hb.trans (hc.below.mono hb.size)
  replace hz := Nat.le_trans hz hc.kept.size
  clear hc o3 o8 f0 f1 f2 f3 f4 f5 W
  have f6 : w1.cell? ⟨w.heap.size, 0, none⟩ = some (.int .i64 ax) := cell_of_block g0 rfl
  have f7 : w1.cell? ⟨w.heap.size, 1, none⟩ = some (.int .i64 ay) := cell_of_block g0 rfl
  have f8 : w1.cell? ⟨w.heap.size + 1, 0, none⟩ = some (.int .i64 bx) := cell_of_block g1 rfl
  have f9 : w1.cell? ⟨w.heap.size + 1, 1, none⟩ = some (.int .i64 by') := cell_of_block g1 rfl
  have f10 : w1.cell? ⟨w.heap.size + 1 + 1, 0, none⟩ = some (.int .i64 cx) := cell_of_block g2 rfl
  have f11 : w1.cell? ⟨w.heap.size + 1 + 1, 1, none⟩ = some (.int .i64 cy) := cell_of_block g2 rfl
  obtain ⟨q1, q2⟩ := mayB_x h1
  obtain ⟨q3, q4⟩ := mayB_y h1
  obtain ⟨q5, q6⟩ := mayB_x h2
  obtain ⟨q7, q8⟩ := mayB_y h2
  obtain ⟨q9, q10⟩ := mayB_x h3
  obtain ⟨q11, q12⟩ := mayB_y h3
  obtain ⟨m0, n0⟩ := mul_bd1 (x := ax) (y := by') (by omega) (by omega)
  have e0 : IntKind.i64.wrap (ax * by') = ax * by' := IntWalk.i64_in _ (by omega)
  obtain ⟨m1, n1⟩ := mul_bd1 (x := bx) (y := ay) (by omega) (by omega)
  have e1 : IntKind.i64.wrap (bx * ay) = bx * ay := IntWalk.i64_in _ (by omega)
  obtain ⟨m2, n2⟩ := mul_bd1 (x := bx) (y := cy) (by omega) (by omega)
  have e2 : IntKind.i64.wrap (bx * cy) = bx * cy := IntWalk.i64_in _ (by omega)
  obtain ⟨m3, n3⟩ := mul_bd1 (x := cx) (y := by') (by omega) (by omega)
  have e3 : IntKind.i64.wrap (cx * by') = cx * by' := IntWalk.i64_in _ (by omega)
  obtain ⟨m4, n4⟩ := mul_bd1 (x := cx) (y := ay) (by omega) (by omega)
  have e4 : IntKind.i64.wrap (cx * ay) = cx * ay := IntWalk.i64_in _ (by omega)
  obtain ⟨m5, n5⟩ := mul_bd1 (x := ax) (y := cy) (by omega) (by omega)
  have e5 : IntKind.i64.wrap (ax * cy) = ax * cy := IntWalk.i64_in _ (by omega)
  go_wp2
  go_ret
  exact ⟨ret_int (cross_alt ..), hb⟩


theorem refdot_yes (ax ay bx by' cx cy : Int) (w : World) (h1 : mayB ax ay = true) (h2 : mayB bx by' = true) (h3 : mayB cx cy = true) :
    Calls Try.prog 19 #[.agg #[.int .i64 ax, .int .i64 ay], .agg #[.int .i64 bx, .int .i64 by'], .agg #[.int .i64 cx, .int .i64 cy]] w fun e w' => e = .returned (.int .i64 ((bx - ax) * (cx - ax) + (by' - ay) * (cy - ay))) ∧ Below w.heap.size w w' := by
  go_enter Try.func19, Try.ntmps19
  go_upto_region 1 with (fail)
  refine plain_hid (fun W hW ops hops => ?_)
  have hb : Below w.heap.size w W := by rw [hW]; go_grown
  have hz : w.heap.size + 3 ≤ W.heap.size := by rw [hW]; simp
  have g0 : W.heap[w.heap.size]? = some (.cells #[.int .i64 ax, .int .i64 ay] 23) := by rw [hW]; exact heap_alloc_lt (heap_alloc_lt (heap_alloc_is (rfl)))
  have g1 : W.heap[w.heap.size + 1]? = some (.cells #[.int .i64 bx, .int .i64 by'] 23) := by rw [hW]; exact heap_alloc_lt (heap_alloc_is (by simp))
  have g2 : W.heap[w.heap.size + 1 + 1]? = some (.cells #[.int .i64 cx, .int .i64 cy] 23) := by rw [hW]; exact heap_alloc_is (by simp)
  clear hW
  have o3 : (ops[3]?).bind (fun x => x.dst) = some 10 := by rw [hops]; rfl
  have o8 : (ops[8]?).bind (fun x => x.dst) = some 15 := by rw [hops]; rfl
  clear hops
  have f0 : ∀ x : Later W [], x.w.cell? ⟨w.heap.size, 0, none⟩ = some (.int .i64 ax) := fun x => cell_of_block (Later.at0 g0 x) rfl
  have f1 : ∀ x : Later W [], x.w.cell? ⟨w.heap.size, 1, none⟩ = some (.int .i64 ay) := fun x => cell_of_block (Later.at0 g0 x) rfl
  have f2 : ∀ x : Later W [], x.w.cell? ⟨w.heap.size + 1, 0, none⟩ = some (.int .i64 bx) := fun x => cell_of_block (Later.at0 g1 x) rfl
  have f3 : ∀ x : Later W [], x.w.cell? ⟨w.heap.size + 1, 1, none⟩ = some (.int .i64 by') := fun x => cell_of_block (Later.at0 g1 x) rfl
  have f4 : ∀ x : Later W [], x.w.cell? ⟨w.heap.size + 1 + 1, 0, none⟩ = some (.int .i64 cx) := fun x => cell_of_block (Later.at0 g2 x) rfl
  have f5 : ∀ x : Later W [], x.w.cell? ⟨w.heap.size + 1 + 1, 1, none⟩ = some (.int .i64 cy) := fun x => cell_of_block (Later.at0 g2 x) rfl
  repeat (refine walkT_step (fun K hK => ?_); go_simp; first | (refine hK _ _ ?_; clear hK K) | (refine ⟨_, fun x => refmay_any _ _ _, ?_⟩; refine hK _ _ ?_; clear hK K))
  refine walkT_nil ?_
  intro w1 hc
  replace g0 := hc.at0 g0
  replace g1 := hc.at0 g1
  replace g2 := hc.at0 g2
  replace hb := hb.trans (hc.below.mono hb.size)
  replace hz := Nat.le_trans hz hc.kept.size
  clear hc o3 o8 f0 f1 f2 f3 f4 f5 W
  have f6 : w1.cell? ⟨w.heap.size, 0, none⟩ = some (.int .i64 ax) := cell_of_block g0 rfl
  have f7 : w1.cell? ⟨w.heap.size, 1, none⟩ = some (.int .i64 ay) := cell_of_block g0 rfl
  have f8 : w1.cell? ⟨w.heap.size + 1, 0, none⟩ = some (.int .i64 bx) := cell_of_block g1 rfl
  have f9 : w1.cell? ⟨w.heap.size + 1, 1, none⟩ = some (.int .i64 by') := cell_of_block g1 rfl
  have f10 : w1.cell? ⟨w.heap.size + 1 + 1, 0, none⟩ = some (.int .i64 cx) := cell_of_block g2 rfl
  have f11 : w1.cell? ⟨w.heap.size + 1 + 1, 1, none⟩ = some (.int .i64 cy) := cell_of_block g2 rfl
  obtain ⟨q1, q2⟩ := mayB_x h1
  obtain ⟨q3, q4⟩ := mayB_y h1
  obtain ⟨q5, q6⟩ := mayB_x h2
  obtain ⟨q7, q8⟩ := mayB_y h2
  obtain ⟨q9, q10⟩ := mayB_x h3
  obtain ⟨q11, q12⟩ := mayB_y h3
  obtain ⟨m0, n0⟩ := mul_bd (x := (bx - ax)) (y := (cx - ax)) (by omega) (by omega)
  have e0 : IntKind.i64.wrap ((bx - ax) * (cx - ax)) = (bx - ax) * (cx - ax) := IntWalk.i64_in _ (by omega)
  obtain ⟨m1, n1⟩ := mul_bd (x := (by' - ay)) (y := (cy - ay)) (by omega) (by omega)
  have e1 : IntKind.i64.wrap ((by' - ay) * (cy - ay)) = (by' - ay) * (cy - ay) := IntWalk.i64_in _ (by omega)
  go_wp2
  go_ret
  exact ⟨rfl, hb⟩


theorem refcross_no (ax ay bx by' cx cy : Int) (w : World) (h : (mayB ax ay && mayB bx by' && mayB cx cy) = false) :
    Calls Try.prog 17 #[.agg #[.int .i64 ax, .int .i64 ay], .agg #[.int .i64 bx, .int .i64 by'], .agg #[.int .i64 cx, .int .i64 cy]] w fun e w' => e = .returned (.int .i64 0) ∧ Below w.heap.size w w' := by
  cases h1 : mayB ax ay <;> cases h2 : mayB bx by' <;> cases h3 : mayB cx cy <;> rw [h1, h2, h3] at h <;> first | (exfalso; revert h; decide) | skip
  all_goals
    clear h
    go_enter Try.func17, Try.ntmps17
    go_upto_region 1 with (fail)
    refine plain_hid (fun W hW ops hops => ?_)
    have hb : Below w.heap.size w W := by rw [hW]; go_grown
    have hz : w.heap.size + 3 ≤ W.heap.size := by rw [hW]; simp
    have g0 : W.heap[w.heap.size]? = some (.cells #[.int .i64 ax, .int .i64 ay] 23) := by rw [hW]; exact heap_alloc_lt (heap_alloc_lt (heap_alloc_is (rfl)))
    have g1 : W.heap[w.heap.size + 1]? = some (.cells #[.int .i64 bx, .int .i64 by'] 23) := by rw [hW]; exact heap_alloc_lt (heap_alloc_is (by simp))
    have g2 : W.heap[w.heap.size + 1 + 1]? = some (.cells #[.int .i64 cx, .int .i64 cy] 23) := by rw [hW]; exact heap_alloc_is (by simp)
    clear hW
    have o3 : (ops[3]?).bind (fun x => x.dst) = some 10 := by rw [hops]; rfl
    have o8 : (ops[8]?).bind (fun x => x.dst) = some 15 := by rw [hops]; rfl
    clear hops
    have f0 : ∀ x : Later W [], x.w.cell? ⟨w.heap.size, 0, none⟩ = some (.int .i64 ax) := fun x => cell_of_block (Later.at0 g0 x) rfl
    have f1 : ∀ x : Later W [], x.w.cell? ⟨w.heap.size, 1, none⟩ = some (.int .i64 ay) := fun x => cell_of_block (Later.at0 g0 x) rfl
    have f2 : ∀ x : Later W [], x.w.cell? ⟨w.heap.size + 1, 0, none⟩ = some (.int .i64 bx) := fun x => cell_of_block (Later.at0 g1 x) rfl
    have f3 : ∀ x : Later W [], x.w.cell? ⟨w.heap.size + 1, 1, none⟩ = some (.int .i64 by') := fun x => cell_of_block (Later.at0 g1 x) rfl
    have f4 : ∀ x : Later W [], x.w.cell? ⟨w.heap.size + 1 + 1, 0, none⟩ = some (.int .i64 cx) := fun x => cell_of_block (Later.at0 g2 x) rfl
    have f5 : ∀ x : Later W [], x.w.cell? ⟨w.heap.size + 1 + 1, 1, none⟩ = some (.int .i64 cy) := fun x => cell_of_block (Later.at0 g2 x) rfl
    repeat (refine walkT_step (fun K hK => ?_); go_simp; first | (refine hK _ _ ?_; clear hK K) | (refine ⟨_, fun x => refmay_any _ _ _, ?_⟩; refine hK _ _ ?_; clear hK K))
    refine walkT_nil ?_
    intro w1 hc
    replace g0 := hc.at0 g0
    replace g1 := hc.at0 g1
    replace g2 := hc.at0 g2
    replace hb := hb.trans (hc.below.mono hb.size)
    replace hz := Nat.le_trans hz hc.kept.size
    clear hc o3 o8 f0 f1 f2 f3 f4 f5 W
    go_wp2
    go_ret
    exact ⟨rfl, hb⟩


theorem refcross_any (ax ay bx by' cx cy : Int) (w : World) : Calls Try.prog 17 #[.agg #[.int .i64 ax, .int .i64 ay], .agg #[.int .i64 bx, .int .i64 by'], .agg #[.int .i64 cx, .int .i64 cy]] w fun e w' => e = .returned (.int .i64 (crossI ax ay bx by' cx cy)) ∧ Below w.heap.size w w' := by
  cases h : (mayB ax ay && mayB bx by' && mayB cx cy)
  · have e : crossI ax ay bx by' cx cy = 0 := by simp [crossI, h]
    rw [e]; exact refcross_no ax ay bx by' cx cy w h
  · have e : crossI ax ay bx by' cx cy = (bx - ax) * (cy - ay) - (by' - ay) * (cx - ax) := by simp [crossI, h]
    rw [e]
    simp only [Bool.and_eq_true] at h
    obtain ⟨⟨h1, h2⟩, h3⟩ := h
    exact refcross_yes ax ay bx by' cx cy w h1 h2 h3


theorem refdot_no (ax ay bx by' cx cy : Int) (w : World) (h : (mayB ax ay && mayB bx by' && mayB cx cy) = false) :
    Calls Try.prog 19 #[.agg #[.int .i64 ax, .int .i64 ay], .agg #[.int .i64 bx, .int .i64 by'], .agg #[.int .i64 cx, .int .i64 cy]] w fun e w' => e = .returned (.int .i64 0) ∧ Below w.heap.size w w' := by
  cases h1 : mayB ax ay <;> cases h2 : mayB bx by' <;> cases h3 : mayB cx cy <;> rw [h1, h2, h3] at h <;> first | (exfalso; revert h; decide) | skip
  all_goals
    clear h
    go_enter Try.func19, Try.ntmps19
    go_upto_region 1 with (fail)
    refine plain_hid (fun W hW ops hops => ?_)
    have hb : Below w.heap.size w W := by rw [hW]; go_grown
    have hz : w.heap.size + 3 ≤ W.heap.size := by rw [hW]; simp
    have g0 : W.heap[w.heap.size]? = some (.cells #[.int .i64 ax, .int .i64 ay] 23) := by rw [hW]; exact heap_alloc_lt (heap_alloc_lt (heap_alloc_is (rfl)))
    have g1 : W.heap[w.heap.size + 1]? = some (.cells #[.int .i64 bx, .int .i64 by'] 23) := by rw [hW]; exact heap_alloc_lt (heap_alloc_is (by simp))
    have g2 : W.heap[w.heap.size + 1 + 1]? = some (.cells #[.int .i64 cx, .int .i64 cy] 23) := by rw [hW]; exact heap_alloc_is (by simp)
    clear hW
    have o3 : (ops[3]?).bind (fun x => x.dst) = some 10 := by rw [hops]; rfl
    have o8 : (ops[8]?).bind (fun x => x.dst) = some 15 := by rw [hops]; rfl
    clear hops
    have f0 : ∀ x : Later W [], x.w.cell? ⟨w.heap.size, 0, none⟩ = some (.int .i64 ax) := fun x => cell_of_block (Later.at0 g0 x) rfl
    have f1 : ∀ x : Later W [], x.w.cell? ⟨w.heap.size, 1, none⟩ = some (.int .i64 ay) := fun x => cell_of_block (Later.at0 g0 x) rfl
    have f2 : ∀ x : Later W [], x.w.cell? ⟨w.heap.size + 1, 0, none⟩ = some (.int .i64 bx) := fun x => cell_of_block (Later.at0 g1 x) rfl
    have f3 : ∀ x : Later W [], x.w.cell? ⟨w.heap.size + 1, 1, none⟩ = some (.int .i64 by') := fun x => cell_of_block (Later.at0 g1 x) rfl
    have f4 : ∀ x : Later W [], x.w.cell? ⟨w.heap.size + 1 + 1, 0, none⟩ = some (.int .i64 cx) := fun x => cell_of_block (Later.at0 g2 x) rfl
    have f5 : ∀ x : Later W [], x.w.cell? ⟨w.heap.size + 1 + 1, 1, none⟩ = some (.int .i64 cy) := fun x => cell_of_block (Later.at0 g2 x) rfl
    repeat (refine walkT_step (fun K hK => ?_); go_simp; first | (refine hK _ _ ?_; clear hK K) | (refine ⟨_, fun x => refmay_any _ _ _, ?_⟩; refine hK _ _ ?_; clear hK K))
    refine walkT_nil ?_
    intro w1 hc
    replace g0 := hc.at0 g0
    replace g1 := hc.at0 g1
    replace g2 := hc.at0 g2
    replace hb := hb.trans (hc.below.mono hb.size)
    replace hz := Nat.le_trans hz hc.kept.size
    clear hc o3 o8 f0 f1 f2 f3 f4 f5 W
    go_wp2
    go_ret
    exact ⟨rfl, hb⟩


theorem refdot_any (ax ay bx by' cx cy : Int) (w : World) : Calls Try.prog 19 #[.agg #[.int .i64 ax, .int .i64 ay], .agg #[.int .i64 bx, .int .i64 by'], .agg #[.int .i64 cx, .int .i64 cy]] w fun e w' => e = .returned (.int .i64 (dotI ax ay bx by' cx cy)) ∧ Below w.heap.size w w' := by
  cases h : (mayB ax ay && mayB bx by' && mayB cx cy)
  · have e : dotI ax ay bx by' cx cy = 0 := by simp [dotI, h]
    rw [e]; exact refdot_no ax ay bx by' cx cy w h
  · have e : dotI ax ay bx by' cx cy = (bx - ax) * (cx - ax) + (by' - ay) * (cy - ay) := by simp [dotI, h]
    rw [e]
    simp only [Bool.and_eq_true] at h
    obtain ⟨⟨h1, h2⟩, h3⟩ := h
    exact refdot_yes ax ay bx by' cx cy w h1 h2 h3


theorem far_any (ax ay bx by' : Int) (w : World) : Calls Try.prog 15 #[.agg #[.int .i64 ax, .int .i64 ay], .agg #[.int .i64 bx, .int .i64 by']] w fun e w' => e = .returned (.int .i64 (dotI ax ay bx by' bx by')) ∧ Below w.heap.size w w' := by
  go_enter Try.func15, Try.ntmps15
  go_upto_region 1 with (fail)
  refine plain_hid (fun W hW ops hops => ?_)
  have hb : Below w.heap.size w W := by rw [hW]; go_grown
  have hz : w.heap.size + 2 ≤ W.heap.size := by rw [hW]; simp
  have g0 : W.heap[w.heap.size]? = some (.cells #[.int .i64 ax, .int .i64 ay] 23) := by rw [hW]; exact heap_alloc_lt (heap_alloc_is (rfl))
  have g1 : W.heap[w.heap.size + 1]? = some (.cells #[.int .i64 bx, .int .i64 by'] 23) := by rw [hW]; exact heap_alloc_is (by simp)
  clear hW
  clear hops
  have f0 : ∀ x : Later W [], x.w.cell? ⟨w.heap.size, 0, none⟩ = some (.int .i64 ax) := fun x => cell_of_block (Later.at0 g0 x) rfl
  have f1 : ∀ x : Later W [], x.w.cell? ⟨w.heap.size, 1, none⟩ = some (.int .i64 ay) := fun x => cell_of_block (Later.at0 g0 x) rfl
  have f2 : ∀ x : Later W [], x.w.cell? ⟨w.heap.size + 1, 0, none⟩ = some (.int .i64 bx) := fun x => cell_of_block (Later.at0 g1 x) rfl
  have f3 : ∀ x : Later W [], x.w.cell? ⟨w.heap.size + 1, 1, none⟩ = some (.int .i64 by') := fun x => cell_of_block (Later.at0 g1 x) rfl
  repeat (refine walkT_step (fun K hK => ?_); go_simp; first | (refine hK _ _ ?_; clear hK K) | (refine ⟨_, fun x => dot_any _ _ _ _ _ _ _, ?_⟩; refine hK _ _ ?_; clear hK K))
  refine walkT_nil ?_
  intro w1 hc
  replace g0 := hc.at0 g0
  replace g1 := hc.at0 g1
  replace hb := hb.trans (hc.below.mono hb.size)
  replace hz := Nat.le_trans hz hc.kept.size
  clear hc f0 f1 f2 f3 W
  go_wp2
  go_ret
  exact ⟨rfl, hb⟩

end Go.Proofs.Ytcpjgcpclekjkaa
