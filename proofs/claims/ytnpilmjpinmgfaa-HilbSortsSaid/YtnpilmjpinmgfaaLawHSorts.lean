/-
  PROVED: HilbSorts: squares by their index: the same squares, in order, or the error of one that is none. CONDITIONS: none: for every order and every slice.
-/
import Derived.Test.YtnpilmjpinmgfaaHLaw4
import Derived.Test.YtnpilmjpinmgfaaKit
import Derived.Deep.Slices
import Derived.Lib.Hide
namespace Go.Proofs.Ytnpilmjpinmgfaa
open Go.RowKit Go.Proofs.Ytnpilmjpinmgfaa.Tame
set_option maxHeartbeats 400000


theorem add_at {b off j : Nat} : (⟨b, off, none⟩ : Addr).add j = ⟨b, off + j, none⟩ := by unfold Addr.add; split <;> simp_all
theorem slice_form {W : World} {base : Nat} {v : Value} (hval : Value.okWide Try.prog W .any base 58 v) : v = .slice none 0 0 ∨ ∃ a len cap, v = .slice (some a) len cap ∧ a.spot = none := by
  unfold Value.okWide at hval
  rw [Try.underlying58] at hval
  simp only at hval
  unfold Cell.okWide at hval
  rw [Try.underlying58] at hval
  have hc' : Cell.ok Try.prog W .any base 58 v := by
    cases v <;> exact hval
  unfold Cell.ok at hc'
  rw [Try.underlying58] at hc'
  cases v <;> simp only at hc' <;> first | exact hc'.elim | skip
  case slice a x y =>
    cases a with
    | none =>
      left
      match x, y, hc' with
      | 0, 0, _ => rfl
    | some a => exact .inr ⟨a, x, y, rfl, hc'.2.2.2.1⟩
open Go.ChangeShapes Go.WideShapes Go.Deep in
/-- A slice of points that came in: nil, or points that lie from a place on. -/
theorem slice_of {H : Type} {enc : TypeId × Value → H} {W : World} {base : Nat} {v : Value} {d : DataW H} {ps : List MemPlace} (hval : Value.okWide Try.prog W .any base 58 v) (h : DataW.Trod enc Try.prog W 0 (fun _ => true) true 58 v d ps) :
    v = .slice none 0 0 ∨ ∃ (b off n cap : Nat) (f : Fn), v = .slice (some ⟨b, off, none⟩) n cap ∧ n ≤ 9223372036854775807 ∧ PtsAt W b off n f := by
  obtain ⟨fuel, hf⟩ := h
  rcases open_slice Try.underlying58 hf with ⟨h0, _⟩ | ⟨a, len, cap, m, n, D, Pl, hcs, _, hl, hm, hmm, _, hi⟩
  · left
    rcases slice_form hval with h1 | ⟨a, x, y, rfl, _⟩
    · exact h1
    · simp [Value.cells] at h0
  · right
    rcases slice_form hval with h1 | ⟨a', x, y, hv', hspot'⟩
    · rw [h1] at hcs; simp [Value.cells] at hcs
    rw [hv'] at hcs
    simp [Value.cells] at hcs
    obtain ⟨e1, e2, e3⟩ := hcs
    rw [e1, e2, e3] at hv'
    rw [e1] at hspot'
    subst hv'
    have hspot := hspot'
    clear hspot'
    obtain ⟨b, off, sp⟩ := a
    simp only at hspot
    subst hspot
    have hcap : m = cap := by rw [hmm]; simp
    have hC : Try.prog.cellsOf 23 = 2 := by kernel_rfl
    have hC3 : Try.prog.cellsOf 3 = 1 := by kernel_rfl
    have key : ∀ i, i < len → ∃ p : Int × Int, W.cell? ⟨b, off + i * 2, none⟩ = some (.int .i64 p.1) ∧ W.cell? ⟨b, off + i * 2 + 1, none⟩ = some (.int .i64 p.2) := by
      intro i hil
      obtain ⟨cs', hc, ht'⟩ := hi i (by omega)
      rw [hC] at hc
      obtain ⟨_, hcl, hat⟩ := World.cells?_some hc
      obtain ⟨ys, n', _, _, _, hyl, hfl⟩ := DataW.trod_struct Try.underlying23 ht'
      have h0 := hfl 0 _ rfl
      have h1 := hfl 1 _ rfl
      match cs', hcl with
      | [x0, x1], _ =>
        match ys, hyl with
        | [y0, y1], _ =>
          obtain ⟨n0, e0, _⟩ := DataW.trod_int Try.underlying3 h0
          obtain ⟨n1, e1, _⟩ := DataW.trod_int Try.underlying3 h1
          have e0' : List.take (Try.prog.cellsOf 3) (List.drop 0 [x0, x1]) = [.int .i64 n0] := e0
          have e1' : List.take (Try.prog.cellsOf 3) (List.drop 1 [x0, x1]) = [.int .i64 n1] := e1
          rw [hC3] at e0' e1'
          simp at e0' e1'
          clear e0 e1
          have e0 := e0'
          have e1 := e1'
          refine ⟨(n0, n1), ?_, ?_⟩
          · have := hat 0 (by omega)
            rw [add_at, add_at] at this
            simpa [e0] using this
          · have := hat 1 (by omega)
            rw [add_at, add_at] at this
            simpa [e1] using this
    obtain ⟨f, hf'⟩ := choose_lt key
    refine ⟨b, off, len, cap, f, rfl, ?_, hf'⟩
    unfold maxLen at hm
    omega

theorem sorts_all (k : Int) (v : Value) (w : World) (h : v = .slice none 0 0 ∨ ∃ (b off n cap : Nat) (f : Fn), v = .slice (some ⟨b, off, none⟩) n cap ∧ n ≤ 9223372036854775807 ∧ PtsAt w b off n f) :
    Calls Try.prog 7 #[.int .i64 k, v] w fun e w' => e = .returned (.bool true) ∧ Below w.heap.size w w' := by
  rcases h with rfl | ⟨b, off, n, cap, f, rfl, hn, hp⟩
  · exact sorts_zero k none 0 w (fun _ => rfl)
  · by_cases h60 : n ≤ 60
    · by_cases h0 : n = 0
      · subst h0
        exact sorts_zero k (some _) cap w (fun h => by cases h)
      · by_cases hall : ∀ i, i < n → insB k (f i).1 (f i).2 = true
        · have hi := hall 0 (by omega)
          unfold insB insM at hi
          simp only [Bool.and_eq_true, decide_eq_true_eq] at hi
          obtain ⟨kn, rfl⟩ : ∃ kn : Nat, k = kn := ⟨k.toNat, by omega⟩
          exact sorts_yes kn b off n cap f w (by omega) (by omega) h60 hp hall
        · have : ∃ j, j < n ∧ insB k (f j).1 (f j).2 = false := by
            apply Classical.byContradiction
            intro hne
            apply hall
            intro i hi
            cases hz : insB k (f i).1 (f i).2
            · exact absurd ⟨i, hi, hz⟩ hne
            · rfl
          obtain ⟨j, hj, hbad⟩ := this
          exact sorts_bad k b off n cap j f w h60 hj hp hbad
    · exact sorts_long k (some _) n cap w (by omega) hn


namespace hilbSorts
open Go.ChangeShapes Go.WideShapes Go.ChangeAt
theorem spec_is (H : Type) : ∀ ds : List (DataW H), ds.length = 2 → Rows.hilbSortsSpec.fn H ds = { results := [.lit (.bool true)], args := ds }
  | [], h => by cases h
  | [_], h => by cases h
  | [_, _], _ => rfl
  | _ :: _ :: _ :: _, h => by simp at h

theorem args_of {args : Array Value} (h : args.size = 2) : ∃ v0 v1, args = #[v0, v1] := by
  refine ⟨args[0], args[1], ?_⟩
  apply Array.ext
  · simpa using h
  · intro i h1 h2
    match i, h1 with
    | 0, _ => rfl
    | 1, _ => rfl
    | m + 2, hm => exact absurd hm (by omega)

set_option maxRecDepth 100000 in
theorem over : Rows.hilbSortsRow.holds Try.pinned (OpenSpec.ofChange Rows.hilbSortsSpec) :=
  OpenClaim.holds_of_wide 7 Try.f7 rfl rfl rfl rfl rfl rfl rfl ⟨rfl, rfl, rfl, rfl, rfl⟩ rfl rfl rfl rfl rfl (by kernel_rfl) Try.func7 (by kernel_rfl)
    (of_decide_eq_true (by kernel_rfl)) (by unfold Func.isWrapper; first | (rw [if_pos (by decide +kernel)]; kernel_rfl) | (rw [if_neg (by decide +kernel)]; exact ⟨rfl, rfl⟩))
    (fun os started H enc _ => Kit.lifted (C := Try.checked) (tb := 4) (n := 2) (by kernel_rfl) (by kernel_rfl) (by kernel_rfl) Try.func7 rfl (by kernel_rfl) Try.underlying4 (by kernel_rfl)
      (by
        have e : Try.f7.params.toList = [3, 58] := by rw [Try.params7]
        rw [e]
        intro t ht
        simp only [List.mem_cons, List.not_mem_nil, or_false] at ht
        rcases ht with rfl | rfl <;> exact ⟨by kernel_rfl, of_decide_eq_true (by kernel_rfl)⟩)
      spec_is
      (by
        intro W base args H enc ds p hn hval hA hfz hz
        obtain ⟨v0, v1, rfl⟩ := args_of hn
        rw [Try.params7] at hval
        have k0 := hval 0 3 v0 rfl rfl
        have k1 := hval 1 58 v1 rfl rfl
        clear hval
        obtain ⟨k, rfl, _⟩ := Kit.int_of Try.underlying3 k0
        rw [Try.params7] at hA
        have hsl : v1 = .slice none 0 0 ∨ ∃ (b off n cap : Nat) (f : Fn), v1 = .slice (some ⟨b, off, none⟩) n cap ∧ n ≤ 9223372036854775807 ∧ PtsAt W b off n f := by
          match ds, hA with
          | [_, _], hA =>
            obtain ⟨_, _, _, ⟨_, _, h2, _⟩, _⟩ := hA
            exact slice_of k1 h2
        exact sorts_all k v1 W hsl)
      os started H enc
      (ChangeSpec.witness6 (enc := enc) (C := Try.checked) false ⟨#[], #[.int .i64 0, .slice none 0 0], []⟩ 8 (by kernel_rfl) (by kernel_rfl) (by kernel_rfl) (by kernel_rfl)))
end hilbSorts

/-- THE STATEMENT. -/
theorem hilbSorts_holds : Rows.HilbSortsSaid := hilbSorts.over
#print axioms hilbSorts_holds

end Go.Proofs.Ytnpilmjpinmgfaa
