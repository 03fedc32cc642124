/-
  PROVED: HilbPoints: each index of a curve has one square, which has that index, and the next index's square has a side in common. CONDITIONS: none: for every order and every index.
-/
import Derived.Test.YtnpilmjpinmgfaaHLaw1
import Derived.Test.YtnpilmjpinmgfaaKit
import Derived.Lib.Hide
namespace Go.Proofs.Ytnpilmjpinmgfaa
open Go.RowKit Go.Proofs.Ytnpilmjpinmgfaa.Tame
set_option maxHeartbeats 400000


theorem hilbpoints_all (k i : Int) (w : World) : Calls Try.prog 4 #[.int .i64 k, .int .i64 i] w fun e w' => e = .returned (.bool true) ∧ Below w.heap.size w w' := by
  by_cases h : 0 ≤ k ∧ k ≤ 20 ∧ 0 ≤ i ∧ i < 4 ^ k.toNat
  · obtain ⟨h1, h2, h3, h4⟩ := h
    obtain ⟨n, rfl⟩ : ∃ n : Nat, k = n := ⟨k.toNat, by omega⟩
    rw [Int.toNat_natCast] at h4
    have hbd := hp_bd n i
    have h2n := pow2_20 (k := n) (by omega)
    refine hilbpoints_at n i (4 ^ n) (hp n i).1 (hp n i).2 w (by omega) ?_ (Lib.hid rfl) (pow4_20 (by omega)) h3 h4 (Lib.hid rfl) (Lib.hid ?_) ⟨hbd.1, by omega⟩ ⟨hbd.2.2.1, by omega⟩
    · rw [show n + n = 2 * n by omega]; exact wrap4 (by omega)
    · unfold insB insM
      rw [Int.toNat_natCast]
      simp [hbd]; omega
  · refine hilbpoints_no k i _ w rfl ?_
    by_cases a : k < 0
    · exact .inl a
    · by_cases b : 20 < k
      · exact .inr (.inl b)
      · by_cases c : i < 0
        · exact .inr (.inr (.inl c))
        · refine .inr (.inr (.inr ?_))
          have : (k + k).toNat = 2 * k.toNat := by omega
          rw [this, wrap4 (by omega)]
          omega


namespace hilbPoints
open Go.ChangeShapes Go.WideShapes Go.ChangeAt
theorem spec_is (H : Type) : ∀ ds : List (DataW H), ds.length = 2 → Rows.hilbPointsSpec.fn H ds = { results := [.lit (.bool true)], args := ds }
  | [], h => by cases h
  | [_], h => by cases h
  | [_, _], _ => rfl
  | _ :: _ :: _ :: _, h => by simp at h

theorem args_of {args : Array Value} (h : args.size = 2) : ∃ v0 v1, args = #[v0, v1] := by
  refine ⟨args[0], args[1], ?_⟩
  apply Array.ext
  · simpa using h
  · intro i h1 h2
    match i, h1 with
    | 0, _ => rfl
    | 1, _ => rfl
    | m + 2, hm => exact absurd hm (by omega)

set_option maxRecDepth 100000 in
theorem over : Rows.hilbPointsRow.holds Try.pinned (OpenSpec.ofChange Rows.hilbPointsSpec) :=
  OpenClaim.holds_of_wide 4 Try.f4 rfl rfl rfl rfl rfl rfl rfl ⟨rfl, rfl, rfl, rfl, rfl⟩ rfl rfl rfl rfl rfl (by kernel_rfl) Try.func4 (by kernel_rfl)
    (of_decide_eq_true (by kernel_rfl)) (by unfold Func.isWrapper; first | (rw [if_pos (by decide +kernel)]; kernel_rfl) | (rw [if_neg (by decide +kernel)]; exact ⟨rfl, rfl⟩))
    (fun os started H enc _ => Kit.lifted (C := Try.checked) (tb := 4) (n := 2) (by kernel_rfl) (by kernel_rfl) (by kernel_rfl) Try.func4 rfl (by kernel_rfl) Try.underlying4 (by kernel_rfl)
      (by
        have e : Try.f4.params.toList = [3, 3] := by rw [Try.params4]
        rw [e]
        intro t ht
        simp only [List.mem_cons, List.not_mem_nil, or_false] at ht
        rcases ht with rfl | rfl <;> exact ⟨by kernel_rfl, of_decide_eq_true (by kernel_rfl)⟩)
      spec_is
      (by
        intro W base args H enc ds p hn hval hA hfz hz
        obtain ⟨v0, v1, rfl⟩ := args_of hn
        rw [Try.params4] at hval
        have k0 := hval 0 3 v0 rfl rfl
        have k1 := hval 1 3 v1 rfl rfl
        clear hval
        obtain ⟨k, rfl, _⟩ := Kit.int_of Try.underlying3 k0
        obtain ⟨i, rfl, _⟩ := Kit.int_of Try.underlying3 k1
        exact hilbpoints_all k i W)
      os started H enc
      (ChangeSpec.witness6 (enc := enc) (C := Try.checked) false ⟨#[], #[.int .i64 0, .int .i64 0], []⟩ 8 (by kernel_rfl) (by kernel_rfl) (by kernel_rfl) (by kernel_rfl)))
end hilbPoints

/-- THE STATEMENT. -/
theorem hilbPoints_holds : Rows.HilbPointsSaid := hilbPoints.over
#print axioms hilbPoints_holds

end Go.Proofs.Ytnpilmjpinmgfaa
