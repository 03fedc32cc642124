/-
  PROVED: TileKeys: a tile's key is parsed to it, and a key is that of the tile that it is; the tile above, the tiles below, the corners. CONDITIONS: none: for every tile and every string.
-/
import Derived.Test.YtnpilmjpinmgfaaTKeysNo
import Derived.Test.YtnpilmjpinmgfaaTKeysDeep
import Derived.Test.YtnpilmjpinmgfaaTKeysMid
import Derived.Test.YtnpilmjpinmgfaaTKeysTop
import Derived.Test.YtnpilmjpinmgfaaKit
import Derived.Lib.Hide
namespace Go.Proofs.Ytnpilmjpinmgfaa
open Go.RowKit Go.Proofs.Ytnpilmjpinmgfaa.Tame
set_option maxHeartbeats 400000


open Go.ChangeShapes Go.WideShapes Go.ChangeAt in
theorem agg3_of {P : Program} {W : World} {base : Nat} {t : TypeId} {v : Value} {k : IntKind} {ts : List TypeId} {d : Array Field} (hu : P.underlying t = some (.struct d)) (hC : P.cellsOf t = 3) (hts : P.cellTypes P.depth t = some ts)
    (hall : ∀ u, u ∈ ts → P.underlying u = some (.int k)) (h : Value.okWide P W .any base t v) : ∃ x y z : Int, v = .agg #[.int k x, .int k y, .int k z] := by
  unfold Value.okWide at h
  rw [hu] at h
  obtain ⟨cs, rfl, hs, hr⟩ := h
  have hc := Kit.cells_int hr hts hall
  rw [hC] at hs
  obtain ⟨x, hx, _⟩ := hc 0 _ (Array.getElem?_eq_getElem (by omega))
  obtain ⟨y, hy, _⟩ := hc 1 _ (Array.getElem?_eq_getElem (by omega))
  obtain ⟨z, hz, _⟩ := hc 2 _ (Array.getElem?_eq_getElem (by omega))
  refine ⟨x, y, z, ?_⟩
  congr 1
  apply Array.ext
  · simpa using hs
  · intro i h1 h2
    match i, h1 with
    | 0, _ => simpa using hx
    | 1, _ => simpa using hy
    | 2, _ => simpa using hz
    | n + 3, h => omega
theorem str_of {P : Program} {W : World} {base : Nat} {t : TypeId} {v : Value} (hu : P.underlying t = some .string) (h : Value.okWide P W .any base t v) : ∃ s : ByteArray, v = .string s ∧ s.size ≤ 9223372036854775807 := by
  unfold Value.okWide at h
  rw [hu] at h
  simp only at h
  unfold Cell.okWide at h
  rw [hu] at h
  have hc' : Cell.ok P W .any base t v := by
    cases v <;> exact h
  unfold Cell.ok at hc'
  rw [hu] at hc'
  cases v <;> simp only at hc' <;> first | exact hc'.elim | skip
  case string s =>
    refine ⟨s, rfl, ?_⟩
    have : IntKind.i64.max = 9223372036854775807 := by decide
    rw [this] at hc'
    omega
theorem tTile : Try.prog.cellTypes Try.prog.depth 25 = some [3, 3, 3] := by kernel_rfl
theorem cTile : Try.prog.cellsOf 25 = 3 := by kernel_rfl
theorem uInt3 : ∀ u, u ∈ ([3, 3, 3] : List TypeId) → Try.prog.underlying u = some (.int .i64) := by
  intro u hu; simp at hu; subst hu; exact Try.underlying3

set_option maxRecDepth 100000 in
set_option maxHeartbeats 4000000 in
theorem tilekeys_long (z x y : Int) (s : ByteArray) (w : World) (h : 100 < s.size) (hs : s.size ≤ 9223372036854775807) :
    Calls Try.prog 5 #[.agg #[.int .i64 z, .int .i64 x, .int .i64 y], .string s] w fun e w' => e = .returned (.bool true) ∧ Below w.heap.size w w' := by
  go_enter Try.func5, Try.ntmps5
  go_wp2_with fail
  refine (tawake_any _).mono ?_
  rintro e wz ⟨rfl, hbz⟩
  go_wp2_with fail
  go_ret
  exact ⟨rfl, (by go_grown : Below w.heap.size w (w.alloc (.cells #[.int .i64 z, .int .i64 x, .int .i64 y] 25))).trans (hbz.mono (by simp))⟩

theorem tilekeys_all (z x y : Int) (s : ByteArray) (w : World) (hs : s.size ≤ 9223372036854775807) : Calls Try.prog 5 #[.agg #[.int .i64 z, .int .i64 x, .int .i64 y], .string s] w fun e w' => e = .returned (.bool true) ∧ Below w.heap.size w w' := by
  by_cases h100 : s.size ≤ 100
  · obtain ⟨a, b, c, f, hp⟩ := parsed s
    cases ht : tilB z x y
    · exact tilekeys_no z x y a b c f s w h100 (Lib.hid hp) (Lib.hid ht)
    · have m := may_of ht
      have hK : KB z x y = KB z x y := rfl
      have hpk : ∀ w, Calls Try.prog 18 #[.string (KB z x y)] w fun e w' => e = .returned (.tuple #[.agg #[.int .i64 z, .int .i64 x, .int .i64 y], .int .i64 0]) ∧ Below w.heap.size w w' := fun w => by
        have := parse_any (KB z x y) w (by rw [kb_size]; have := m.z1; omega)
        rw [parse_kb ht] at this
        exact this
      have hks : (KB z x y).size ≤ 29 := by rw [kb_size]; have := m.z1; omega
      by_cases h0 : z = 0
      · exact tilekeys_top z x y a b c f s w h100 (Lib.hid hp) m.z0 m.z1 (by omega) (Lib.hid ht) _ (Lib.hid rfl) (Lib.hid fun w => tkey_c z x y w ht) (Lib.hid hpk) (Lib.hid hks) (Lib.hid h0) (Lib.hid fun w => up_no z x y w true (Lib.hid ht) (.inr h0))
      · have hz : 0 < z := by have := m.z0; omega
        have hn : (KB z x y).size = (z.toNat - 1) + 1 := by rw [kb_size]; omega
        have he : (KB z x y).extract 0 (z.toNat - 1) = KB (z - 1) (x / 2) (y / 2) := by
          rw [← kb_up x y hz, kb_size]
        by_cases h29 : z = 29
        · exact tilekeys_deep z x y a b c f s w h100 (Lib.hid hp) m.z0 m.z1 (Lib.hid h29) (Lib.hid ht) _ (Lib.hid rfl) (Lib.hid fun w => tkey_c z x y w ht) (Lib.hid hpk) (Lib.hid hks) (z.toNat - 1) hz (z - 1) (x / 2) (y / 2) (Lib.hid (may_up ht hz)) _ (Lib.hid rfl) (Lib.hid hn) (by omega) (Lib.hid he) (Lib.hid fun w => up_c z x y w ht hz)
        · exact tilekeys_mid z x y a b c f s w h100 (Lib.hid hp) m.z0 m.z1 (by have := m.z1; omega) (Lib.hid ht) _ (Lib.hid rfl) (Lib.hid fun w => tkey_c z x y w ht) (Lib.hid hpk) (Lib.hid hks) (z.toNat - 1) hz (z - 1) (x / 2) (y / 2) (Lib.hid (may_up ht hz)) _ (Lib.hid rfl) (Lib.hid hn) (by have := m.z1; omega) (Lib.hid he) (Lib.hid fun w => up_c z x y w ht hz)
  · exact tilekeys_long z x y s w (by omega) hs


namespace tileKeys
open Go.ChangeShapes Go.WideShapes Go.ChangeAt
theorem spec_is (H : Type) : ∀ ds : List (DataW H), ds.length = 2 → Rows.tileKeysSpec.fn H ds = { results := [.lit (.bool true)], args := ds }
  | [], h => by cases h
  | [_], h => by cases h
  | [_, _], _ => rfl
  | _ :: _ :: _ :: _, h => by simp at h

theorem args_of {args : Array Value} (h : args.size = 2) : ∃ v0 v1, args = #[v0, v1] := by
  refine ⟨args[0], args[1], ?_⟩
  apply Array.ext
  · simpa using h
  · intro i h1 h2
    match i, h1 with
    | 0, _ => rfl
    | 1, _ => rfl
    | m + 2, hm => exact absurd hm (by omega)

set_option maxRecDepth 100000 in
theorem over : Rows.tileKeysRow.holds Try.pinned (OpenSpec.ofChange Rows.tileKeysSpec) :=
  OpenClaim.holds_of_wide 5 Try.f5 rfl rfl rfl rfl rfl rfl rfl ⟨rfl, rfl, rfl, rfl, rfl⟩ rfl rfl rfl rfl rfl (by kernel_rfl) Try.func5 (by kernel_rfl)
    (of_decide_eq_true (by kernel_rfl)) (by unfold Func.isWrapper; first | (rw [if_pos (by decide +kernel)]; kernel_rfl) | (rw [if_neg (by decide +kernel)]; exact ⟨rfl, rfl⟩))
    (fun os started H enc _ => Kit.lifted (C := Try.checked) (tb := 4) (n := 2) (by kernel_rfl) (by kernel_rfl) (by kernel_rfl) Try.func5 rfl (by kernel_rfl) Try.underlying4 (by kernel_rfl)
      (by
        have e : Try.f5.params.toList = [25, 9] := by rw [Try.params5]
        rw [e]
        intro t ht
        simp only [List.mem_cons, List.not_mem_nil, or_false] at ht
        rcases ht with rfl | rfl <;> exact ⟨by kernel_rfl, of_decide_eq_true (by kernel_rfl)⟩)
      spec_is
      (by
        intro W base args H enc ds p hn hval hA hfz hz
        obtain ⟨v0, v1, rfl⟩ := args_of hn
        rw [Try.params5] at hval
        have k0 := hval 0 25 v0 rfl rfl
        have k1 := hval 1 9 v1 rfl rfl
        clear hval
        obtain ⟨z, x, y, rfl⟩ := agg3_of Try.underlying25 cTile tTile uInt3 k0
        obtain ⟨s, rfl, hsz⟩ := str_of Try.underlying9 k1
        exact tilekeys_all z x y s W hsz)
      os started H enc
      (ChangeSpec.witness6 (enc := enc) (C := Try.checked) false ⟨#[], #[.agg #[.int .i64 0, .int .i64 0, .int .i64 0], .string ⟨#[]⟩], []⟩ 8 (by kernel_rfl) (by kernel_rfl) (by kernel_rfl) (by kernel_rfl)))
end tileKeys

/-- THE STATEMENT. -/
theorem tileKeys_holds : Rows.TileKeysSaid := tileKeys.over
#print axioms tileKeys_holds

end Go.Proofs.Ytnpilmjpinmgfaa
