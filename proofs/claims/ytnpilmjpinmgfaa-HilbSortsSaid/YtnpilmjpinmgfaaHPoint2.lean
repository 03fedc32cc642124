import Derived.Test.YtnpilmjpinmgfaaHPoint
import Derived.Deep.DeepCutAuto
namespace Go.Proofs.Ytnpilmjpinmgfaa
open Go.RowKit Go.Proofs.Ytnpilmjpinmgfaa.Tame
set_option maxHeartbeats 400000
theorem pow2_20 {k : Nat} (h : k ≤ 20) : (2 : Int) ^ k ≤ 1048576 := pow2_le h
theorem pow4_is (k : Nat) : (2 : Int) ^ (2 * k) = 4 ^ k := by rw [Int.pow_mul]; rfl
theorem pow4_le {j k : Nat} (h : j ≤ k) : (4 : Int) ^ j ≤ 4 ^ k := by
  have := Nat.pow_le_pow_right (n := 4) (by decide) h
  have := Int.ofNat_le.2 this
  simpa using this
theorem pow4_20 {k : Nat} (h : k ≤ 20) : (4 : Int) ^ k ≤ 1099511627776 := pow4_le h
theorem wrap2 {k : Nat} (h : k ≤ 20) : wrap64 (2 ^ k) = 2 ^ k := by
  have h1 := pow2_20 h
  have h2 := pow2_pos k
  exact IntWalk.wrap64_in _ ⟨by omega, by omega⟩
theorem wrap4 {k : Nat} (h : k ≤ 20) : wrap64 (2 ^ (2 * k)) = 4 ^ k := by
  have h1 := pow4_20 h
  have h2 := pow4_pos k
  rw [pow4_is]
  exact IntWalk.wrap64_in _ ⟨by omega, by omega⟩

theorem hpoint_yes (k : Nat) (i : Int) (w : World) (hk : k ≤ 20) (h0 : 0 ≤ i) (h1 : i < 4 ^ k) :
    Calls Try.prog 13 #[.int .i64 k, .int .i64 i] w fun e w' => e = .returned (.tuple #[.agg #[.int .i64 (hp k i).1, .int .i64 (hp k i).2], .int .i64 0]) ∧ Below w.heap.size w w' := by
  have h := pt k i (2 ^ k) (4 ^ k) w (by omega) (by omega) h0 (by rw [show (2 * (k : Int)).toNat = 2 * k by omega]; exact wrap4 hk) (by rw [Int.toNat_natCast]; exact wrap2 hk) h1 (Lib.hid (by rw [Int.toNat_natCast])) (pow2_20 hk)
  rw [Int.toNat_natCast] at h
  exact h

theorem ret_bool {a b : Bool} (h : a = b) : Ending.returned (.bool a) = .returned (.bool b) := by rw [h]
theorem hpoint_no (k i N : Int) (w : World) (hN : wrap64 (2 ^ (2 * k).toNat) = N) (h : k < 0 ∨ 20 < k ∨ i < 0 ∨ N ≤ i) :
    Calls Try.prog 13 #[.int .i64 k, .int .i64 i] w fun e w' => e = .returned (.tuple #[.agg #[.int .i64 0, .int .i64 0], .int .i64 1]) ∧ Below w.heap.size w w' := by
  by_cases a : k < 0
  · clear h
    go_enter Try.func13, Try.ntmps13
    go_wp2
    exact bodyPost_ret (v := .tuple #[.agg #[.int .i64 0, .int .i64 0], .int .i64 1]) (by simp [results, Try.results13, go_sem]) rfl ⟨rfl, by go_grown⟩
  · by_cases b : 20 < k
    · clear h
      go_enter Try.func13, Try.ntmps13
      go_wp2
      exact bodyPost_ret (v := .tuple #[.agg #[.int .i64 0, .int .i64 0], .int .i64 1]) (by simp [results, Try.results13, go_sem]) rfl ⟨rfl, by go_grown⟩
    · by_cases c : i < 0
      · clear h
        go_enter Try.func13, Try.ntmps13
        go_wp2
        exact bodyPost_ret (v := .tuple #[.agg #[.int .i64 0, .int .i64 0], .int .i64 1]) (by simp [results, Try.results13, go_sem]) rfl ⟨rfl, by go_grown⟩
      · have d : N ≤ i := by omega
        clear h
        go_enter Try.func13, Try.ntmps13
        go_wp2
        exact bodyPost_ret (v := .tuple #[.agg #[.int .i64 0, .int .i64 0], .int .i64 1]) (by simp [results, Try.results13, go_sem]) rfl ⟨rfl, by go_grown⟩


theorem wrap_is (n : Int) : IntKind.i64.wrap n = wrap64 n := by
  rw [IntKind.wrap_i64]; unfold wrap64; rfl

/-- Is a square one of those of an order? (M: how many there are a side) -/
def insM (k x y M : Int) : Bool := decide (0 ≤ k) && decide (k ≤ 20) && decide (0 ≤ x) && decide (0 ≤ y) && decide (x < M) && decide (y < M)
def insB (k x y : Int) : Bool := insM k x y (2 ^ k.toNat)

theorem refinside_at (k x y M : Int) (w : World) (hM : wrap64 (2 ^ k.toNat) = M) :
    Calls Try.prog 15 #[.int .i64 k, .agg #[.int .i64 x, .int .i64 y]] w fun e w' => e = .returned (.bool (insM k x y M)) ∧ Below w.heap.size w w' := by
  by_cases h0 : 0 ≤ k
  rotate_left
  · clear hM
    go_enter Try.func15, Try.ntmps15
    go_wp2
    go_ret
    exact ⟨ret_bool (by simp [insM]; omega), by go_grown⟩
  by_cases h1 : k ≤ 20
  rotate_left
  · clear hM
    go_enter Try.func15, Try.ntmps15
    go_wp2
    go_ret
    exact ⟨ret_bool (by simp [insM]; omega), by go_grown⟩
  by_cases h2 : 0 ≤ x
  rotate_left
  ·
    go_enter Try.func15, Try.ntmps15
    go_wp2
    go_ret
    exact ⟨ret_bool (by simp [insM]; omega), by go_grown⟩
  by_cases h3 : 0 ≤ y
  rotate_left
  ·
    go_enter Try.func15, Try.ntmps15
    go_wp2
    go_ret
    exact ⟨ret_bool (by simp [insM]; omega), by go_grown⟩
  by_cases h4 : x < M
  rotate_left
  ·
    go_enter Try.func15, Try.ntmps15
    go_wp2
    go_ret
    exact ⟨ret_bool (by simp [insM]; omega), by go_grown⟩
  go_enter Try.func15, Try.ntmps15
  go_wp2
  go_ret
  exact ⟨ret_bool (by simp [insM, h0, h1, h2, h3, h4]; try omega), by go_grown⟩

theorem refinside_any (k x y : Int) (w : World) :
    Calls Try.prog 15 #[.int .i64 k, .agg #[.int .i64 x, .int .i64 y]] w fun e w' => e = .returned (.bool (insB k x y)) ∧ Below w.heap.size w w' := by
  by_cases hk : 0 ≤ k ∧ k ≤ 20
  · exact refinside_at k x y _ w (wrap2 (k := k.toNat) (by omega))
  · have e : insB k x y = insM k x y (wrap64 (2 ^ k.toNat)) := by
      unfold insB insM
      by_cases h1 : 0 ≤ k
      · have h2 : ¬ k ≤ 20 := fun h => hk ⟨h1, h⟩
        simp [h2]
      · simp [h1]
    rw [e]
    exact refinside_at k x y _ w rfl

theorem inside_at (k x y M : Int) (w : World) (hM : wrap64 (2 ^ k.toNat) = M) :
    Calls Try.prog 31 #[.int .i64 k, .agg #[.int .i64 x, .int .i64 y]] w fun e w' => e = .returned (.bool (insM k x y M)) ∧ Below w.heap.size w w' := by
  by_cases h0 : 0 ≤ k
  rotate_left
  · clear hM
    go_enter Try.func31, Try.ntmps31
    go_upto_region 1 with (fail)
    refine draws_hid (by kernel_rfl) (by kernel_rfl) (by kernel_rfl) (fun W hW ops hops => ?_)
    have hb : Below w.heap.size w W := by rw [hW]; go_grown
    have hz : w.heap.size + 1 ≤ W.heap.size := by rw [hW]; simp
    have g0 : W.heap[w.heap.size]? = some (.cells #[.int .i64 x, .int .i64 y] 23) := by rw [hW]; exact heap_alloc_is (rfl)
    clear hW
    have o2 : (ops[2]?).bind (fun x => x.dst) = some 7 := by rw [hops]; rfl
    have o6 : (ops[6]?).bind (fun x => x.dst) = some 11 := by rw [hops]; rfl
    have o11 : (ops[11]?).bind (fun x => x.dst) = some 16 := by rw [hops]; rfl
    have o16 : (ops[16]?).bind (fun x => x.dst) = some 21 := by rw [hops]; rfl
    have o23 : (ops[23]?).bind (fun x => x.dst) = some 28 := by rw [hops]; rfl
    clear hops
    have f0 : ∀ xl : Later W [], xl.w.cell? ⟨w.heap.size, 0, none⟩ = some (.int .i64 x) := fun xl => cell_of_block (Later.at0 g0 xl) rfl
    have f1 : ∀ xl : Later W [], xl.w.cell? ⟨w.heap.size, 1, none⟩ = some (.int .i64 y) := fun xl => cell_of_block (Later.at0 g0 xl) rfl
    repeat (refine walkT_step (fun K hK => ?_); go_simp; first | (refine hK _ _ ?_; clear hK K))
    refine walkT_nil ?_
    intro w1 hc
    replace g0 := hc.at0 g0
    replace hb := hb.trans (hc.below.mono hb.size)
    replace hz := Nat.le_trans hz hc.kept.size
    clear hc o2 o6 o11 o16 o23 f0 f1 W
    go_wp2
    go_ret
    exact ⟨ret_bool (by simp [insM]; omega), hb⟩
  by_cases h1 : k ≤ 20
  rotate_left
  · clear hM
    go_enter Try.func31, Try.ntmps31
    go_upto_region 1 with (fail)
    refine draws_hid (by kernel_rfl) (by kernel_rfl) (by kernel_rfl) (fun W hW ops hops => ?_)
    have hb : Below w.heap.size w W := by rw [hW]; go_grown
    have hz : w.heap.size + 1 ≤ W.heap.size := by rw [hW]; simp
    have g0 : W.heap[w.heap.size]? = some (.cells #[.int .i64 x, .int .i64 y] 23) := by rw [hW]; exact heap_alloc_is (rfl)
    clear hW
    have o2 : (ops[2]?).bind (fun x => x.dst) = some 7 := by rw [hops]; rfl
    have o6 : (ops[6]?).bind (fun x => x.dst) = some 11 := by rw [hops]; rfl
    have o11 : (ops[11]?).bind (fun x => x.dst) = some 16 := by rw [hops]; rfl
    have o16 : (ops[16]?).bind (fun x => x.dst) = some 21 := by rw [hops]; rfl
    have o23 : (ops[23]?).bind (fun x => x.dst) = some 28 := by rw [hops]; rfl
    clear hops
    have f0 : ∀ xl : Later W [], xl.w.cell? ⟨w.heap.size, 0, none⟩ = some (.int .i64 x) := fun xl => cell_of_block (Later.at0 g0 xl) rfl
    have f1 : ∀ xl : Later W [], xl.w.cell? ⟨w.heap.size, 1, none⟩ = some (.int .i64 y) := fun xl => cell_of_block (Later.at0 g0 xl) rfl
    repeat (refine walkT_step (fun K hK => ?_); go_simp; first | (refine hK _ _ ?_; clear hK K))
    refine walkT_nil ?_
    intro w1 hc
    replace g0 := hc.at0 g0
    replace hb := hb.trans (hc.below.mono hb.size)
    replace hz := Nat.le_trans hz hc.kept.size
    clear hc o2 o6 o11 o16 o23 f0 f1 W
    go_wp2
    go_ret
    exact ⟨ret_bool (by simp [insM]; omega), hb⟩
  by_cases h2 : 0 ≤ x
  rotate_left
  ·
    go_enter Try.func31, Try.ntmps31
    go_upto_region 1 with (fail)
    have hM2 : IntKind.i64.wrap (2 ^ k.toNat) = M := (wrap_is _).trans hM
    refine draws_hid (by kernel_rfl) (by kernel_rfl) (by kernel_rfl) (fun W hW ops hops => ?_)
    have hb : Below w.heap.size w W := by rw [hW]; go_grown
    have hz : w.heap.size + 1 ≤ W.heap.size := by rw [hW]; simp
    have g0 : W.heap[w.heap.size]? = some (.cells #[.int .i64 x, .int .i64 y] 23) := by rw [hW]; exact heap_alloc_is (rfl)
    clear hW
    have o2 : (ops[2]?).bind (fun x => x.dst) = some 7 := by rw [hops]; rfl
    have o6 : (ops[6]?).bind (fun x => x.dst) = some 11 := by rw [hops]; rfl
    have o11 : (ops[11]?).bind (fun x => x.dst) = some 16 := by rw [hops]; rfl
    have o16 : (ops[16]?).bind (fun x => x.dst) = some 21 := by rw [hops]; rfl
    have o23 : (ops[23]?).bind (fun x => x.dst) = some 28 := by rw [hops]; rfl
    clear hops
    have f0 : ∀ xl : Later W [], xl.w.cell? ⟨w.heap.size, 0, none⟩ = some (.int .i64 x) := fun xl => cell_of_block (Later.at0 g0 xl) rfl
    have f1 : ∀ xl : Later W [], xl.w.cell? ⟨w.heap.size, 1, none⟩ = some (.int .i64 y) := fun xl => cell_of_block (Later.at0 g0 xl) rfl
    repeat (refine walkT_step (fun K hK => ?_); go_simp; first | (refine hK _ _ ?_; clear hK K))
    refine walkT_nil ?_
    intro w1 hc
    replace g0 := hc.at0 g0
    replace hb := hb.trans (hc.below.mono hb.size)
    replace hz := Nat.le_trans hz hc.kept.size
    clear hc o2 o6 o11 o16 o23 f0 f1 W
    go_wp2
    go_ret
    exact ⟨ret_bool (by simp [insM]; omega), hb⟩
  by_cases h3 : 0 ≤ y
  rotate_left
  ·
    go_enter Try.func31, Try.ntmps31
    go_upto_region 1 with (fail)
    have hM2 : IntKind.i64.wrap (2 ^ k.toNat) = M := (wrap_is _).trans hM
    refine draws_hid (by kernel_rfl) (by kernel_rfl) (by kernel_rfl) (fun W hW ops hops => ?_)
    have hb : Below w.heap.size w W := by rw [hW]; go_grown
    have hz : w.heap.size + 1 ≤ W.heap.size := by rw [hW]; simp
    have g0 : W.heap[w.heap.size]? = some (.cells #[.int .i64 x, .int .i64 y] 23) := by rw [hW]; exact heap_alloc_is (rfl)
    clear hW
    have o2 : (ops[2]?).bind (fun x => x.dst) = some 7 := by rw [hops]; rfl
    have o6 : (ops[6]?).bind (fun x => x.dst) = some 11 := by rw [hops]; rfl
    have o11 : (ops[11]?).bind (fun x => x.dst) = some 16 := by rw [hops]; rfl
    have o16 : (ops[16]?).bind (fun x => x.dst) = some 21 := by rw [hops]; rfl
    have o23 : (ops[23]?).bind (fun x => x.dst) = some 28 := by rw [hops]; rfl
    clear hops
    have f0 : ∀ xl : Later W [], xl.w.cell? ⟨w.heap.size, 0, none⟩ = some (.int .i64 x) := fun xl => cell_of_block (Later.at0 g0 xl) rfl
    have f1 : ∀ xl : Later W [], xl.w.cell? ⟨w.heap.size, 1, none⟩ = some (.int .i64 y) := fun xl => cell_of_block (Later.at0 g0 xl) rfl
    repeat (refine walkT_step (fun K hK => ?_); go_simp; first | (refine hK _ _ ?_; clear hK K))
    refine walkT_nil ?_
    intro w1 hc
    replace g0 := hc.at0 g0
    replace hb := hb.trans (hc.below.mono hb.size)
    replace hz := Nat.le_trans hz hc.kept.size
    clear hc o2 o6 o11 o16 o23 f0 f1 W
    go_wp2
    go_ret
    exact ⟨ret_bool (by simp [insM]; omega), hb⟩
  by_cases h4 : x < M
  rotate_left
  ·
    go_enter Try.func31, Try.ntmps31
    go_upto_region 1 with (fail)
    have hM2 : IntKind.i64.wrap (2 ^ k.toNat) = M := (wrap_is _).trans hM
    refine draws_hid (by kernel_rfl) (by kernel_rfl) (by kernel_rfl) (fun W hW ops hops => ?_)
    have hb : Below w.heap.size w W := by rw [hW]; go_grown
    have hz : w.heap.size + 1 ≤ W.heap.size := by rw [hW]; simp
    have g0 : W.heap[w.heap.size]? = some (.cells #[.int .i64 x, .int .i64 y] 23) := by rw [hW]; exact heap_alloc_is (rfl)
    clear hW
    have o2 : (ops[2]?).bind (fun x => x.dst) = some 7 := by rw [hops]; rfl
    have o6 : (ops[6]?).bind (fun x => x.dst) = some 11 := by rw [hops]; rfl
    have o11 : (ops[11]?).bind (fun x => x.dst) = some 16 := by rw [hops]; rfl
    have o16 : (ops[16]?).bind (fun x => x.dst) = some 21 := by rw [hops]; rfl
    have o23 : (ops[23]?).bind (fun x => x.dst) = some 28 := by rw [hops]; rfl
    clear hops
    have f0 : ∀ xl : Later W [], xl.w.cell? ⟨w.heap.size, 0, none⟩ = some (.int .i64 x) := fun xl => cell_of_block (Later.at0 g0 xl) rfl
    have f1 : ∀ xl : Later W [], xl.w.cell? ⟨w.heap.size, 1, none⟩ = some (.int .i64 y) := fun xl => cell_of_block (Later.at0 g0 xl) rfl
    repeat (refine walkT_step (fun K hK => ?_); go_simp; first | (refine hK _ _ ?_; clear hK K))
    refine walkT_nil ?_
    intro w1 hc
    replace g0 := hc.at0 g0
    replace hb := hb.trans (hc.below.mono hb.size)
    replace hz := Nat.le_trans hz hc.kept.size
    clear hc o2 o6 o11 o16 o23 f0 f1 W
    go_wp2
    go_ret
    exact ⟨ret_bool (by simp [insM]; omega), hb⟩
  go_enter Try.func31, Try.ntmps31
  go_upto_region 1 with (fail)
  have hM2 : IntKind.i64.wrap (2 ^ k.toNat) = M := (wrap_is _).trans hM
  refine draws_hid (by kernel_rfl) (by kernel_rfl) (by kernel_rfl) (fun W hW ops hops => ?_)
  have hb : Below w.heap.size w W := by rw [hW]; go_grown
  have hz : w.heap.size + 1 ≤ W.heap.size := by rw [hW]; simp
  have g0 : W.heap[w.heap.size]? = some (.cells #[.int .i64 x, .int .i64 y] 23) := by rw [hW]; exact heap_alloc_is (rfl)
  clear hW
  have o2 : (ops[2]?).bind (fun x => x.dst) = some 7 := by rw [hops]; rfl
  have o6 : (ops[6]?).bind (fun x => x.dst) = some 11 := by rw [hops]; rfl
  have o11 : (ops[11]?).bind (fun x => x.dst) = some 16 := by rw [hops]; rfl
  have o16 : (ops[16]?).bind (fun x => x.dst) = some 21 := by rw [hops]; rfl
  have o23 : (ops[23]?).bind (fun x => x.dst) = some 28 := by rw [hops]; rfl
  clear hops
  have f0 : ∀ xl : Later W [], xl.w.cell? ⟨w.heap.size, 0, none⟩ = some (.int .i64 x) := fun xl => cell_of_block (Later.at0 g0 xl) rfl
  have f1 : ∀ xl : Later W [], xl.w.cell? ⟨w.heap.size, 1, none⟩ = some (.int .i64 y) := fun xl => cell_of_block (Later.at0 g0 xl) rfl
  repeat (refine walkT_step (fun K hK => ?_); go_simp; first | (refine hK _ _ ?_; clear hK K))
  refine walkT_nil ?_
  intro w1 hc
  replace g0 := hc.at0 g0
  replace hb := hb.trans (hc.below.mono hb.size)
  replace hz := Nat.le_trans hz hc.kept.size
  clear hc o2 o6 o11 o16 o23 f0 f1 W
  go_wp2
  go_ret
  exact ⟨ret_bool (by simp [insM, h0, h1, h2, h3, h4]; try omega), hb⟩

theorem inside_any (k x y : Int) (w : World) :
    Calls Try.prog 31 #[.int .i64 k, .agg #[.int .i64 x, .int .i64 y]] w fun e w' => e = .returned (.bool (insB k x y)) ∧ Below w.heap.size w w' := by
  by_cases hk : 0 ≤ k ∧ k ≤ 20
  · exact inside_at k x y _ w (wrap2 (k := k.toNat) (by omega))
  · have e : insB k x y = insM k x y (wrap64 (2 ^ k.toNat)) := by
      unfold insB insM
      by_cases h1 : 0 ≤ k
      · have h2 : ¬ k ≤ 20 := fun h => hk ⟨h1, h⟩
        simp [h2]
      · simp [h1]
    rw [e]
    exact inside_at k x y _ w rfl

end Go.Proofs.Ytnpilmjpinmgfaa
