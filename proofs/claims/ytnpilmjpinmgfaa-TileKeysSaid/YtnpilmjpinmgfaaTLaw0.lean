/-
  TILES AND KEYS, PLAIN: what the contracts over tiles say, by one name each; a key is parsed to its tile, and back; the tile above, the tiles below. CONDITIONS: stated.
-/
import Derived.Test.YtnpilmjpinmgfaaTParts
import Derived.Test.YtnpilmjpinmgfaaTAwake
import Derived.Lib.Hide
namespace Go.Proofs.Ytnpilmjpinmgfaa
open Go.RowKit Go.Proofs.Ytnpilmjpinmgfaa.Tame
set_option maxHeartbeats 400000

/-- A tile's key. -/
def KB (z x y : Int) : ByteArray := ⟨(keyL z.toNat x y).toArray⟩
def loI (z x : Int) : Int := x * sideI z - 536870912
def hiI (z x : Int) : Int := loI z x + sideI z

structure May (z x y : Int) : Prop where
  z0 : 0 ≤ z
  z1 : z ≤ 29
  x0 : 0 ≤ x
  y0 : 0 ≤ y
  x1 : x < manyI z
  y1 : y < manyI z
theorem may_of {z x y : Int} (h : tilB z x y = true) : May z x y := by
  unfold tilB tilM at h
  simp only [Bool.and_eq_true, decide_eq_true_eq] at h
  obtain ⟨⟨⟨⟨⟨a, b⟩, c⟩, d⟩, e⟩, f⟩ := h
  exact ⟨a, b, c, d, e, f⟩
theorem of_may {z x y : Int} (h : May z x y) : tilB z x y = true := by
  unfold tilB tilM
  simp only [Bool.and_eq_true, decide_eq_true_eq]
  exact ⟨⟨⟨⟨⟨h.z0, h.z1⟩, h.x0⟩, h.y0⟩, h.x1⟩, h.y1⟩

theorem many_side' (z : Int) (h0 : 0 ≤ z) (h1 : z ≤ 29) : manyI z * sideI z = 1073741824 := by
  unfold manyI sideI
  rw [← Int.pow_add]
  have : z.toNat + (30 - z).toNat = 30 := by omega
  rw [this]; rfl
theorem side_bd {z x : Int} (hz0 : 0 ≤ z) (hz1 : z ≤ 29) (hx0 : 0 ≤ x) (hx1 : x < manyI z) : 0 ≤ x * sideI z ∧ x * sideI z + sideI z ≤ 1073741824 := by
  have hs := (sideI_bd hz0).1
  have h := many_side' z hz0 hz1
  have h2 : (x + 1) * sideI z ≤ manyI z * sideI z := Int.mul_le_mul_of_nonneg_right (by omega) (by omega)
  rw [h, Int.add_mul] at h2
  have h3 : 0 ≤ x * sideI z := Int.mul_nonneg hx0 (by omega)
  omega

theorem tkey_c (z x y : Int) (w : World) (h : tilB z x y = true) : Calls Try.prog 17 #[.agg #[.int .i64 z, .int .i64 x, .int .i64 y]] w fun e w' => e = .returned (.tuple #[.string (KB z x y), .int .i64 0]) ∧ Below w.heap.size w w' := by
  have m := may_of h
  have hn : ((z.toNat : Nat) : Int) = z := by have := m.z0; omega
  have r := tkey_at z.toNat x y w (by have := m.z1; omega) (Lib.hid (by rw [hn]; exact h))
  rw [hn] at r
  exact r
theorem refkey_c (z x y : Int) (w : World) (h : tilB z x y = true) : Calls Try.prog 19 #[.agg #[.int .i64 z, .int .i64 x, .int .i64 y]] w fun e w' => e = .returned (.string (KB z x y)) ∧ Below w.heap.size w w' := by
  have m := may_of h
  have hn : ((z.toNat : Nat) : Int) = z := by have := m.z0; omega
  have hb := manyI_bd m.z1
  have r := refkeyt_at z.toNat x y w (by have := m.z1; omega) m.x0 m.y0 (by have := m.x1; omega) (by have := m.y1; omega)
  rw [hn] at r
  exact r
theorem refbox_c (z x y : Int) (w : World) (h : tilB z x y = true) : Calls Try.prog 12 #[.agg #[.int .i64 z, .int .i64 x, .int .i64 y]] w fun e w' => e = .returned (.agg #[.int .i64 (loI z x), .int .i64 (loI z y), .int .i64 (hiI z x), .int .i64 (hiI z y)]) ∧ Below w.heap.size w w' := by
  have m := may_of h
  have hn : ((z.toNat : Nat) : Int) = z := by have := m.z0; omega
  obtain ⟨a1, a2⟩ := side_bd m.z0 m.z1 m.x0 m.x1
  obtain ⟨b1, b2⟩ := side_bd m.z0 m.z1 m.y0 m.y1
  have r := refbox_at z.toNat x y (sideI z) _ _ w (by have := m.z1; omega) (Lib.hid (by unfold sideI; congr 1; have := m.z0; have := m.z1; omega)) (sideI_bd m.z0).1 rfl rfl a1 a2 b1 b2
  rw [hn] at r
  exact r
theorem box_c (z x y : Int) (w : World) (h : tilB z x y = true) : Calls Try.prog 22 #[.agg #[.int .i64 z, .int .i64 x, .int .i64 y]] w fun e w' => e = .returned (.tuple #[.agg #[.int .i64 (loI z x), .int .i64 (loI z y), .int .i64 (hiI z x), .int .i64 (hiI z y)], .bool true]) ∧ Below w.heap.size w w' := by
  have m := may_of h
  obtain ⟨a1, a2⟩ := side_bd m.z0 m.z1 m.x0 m.x1
  obtain ⟨b1, b2⟩ := side_bd m.z0 m.z1 m.y0 m.y1
  exact tbox_at z x y (sideI z) _ _ w m.z0 m.z1 (Lib.hid h) (twrap (by have := m.z0; omega)) (sideI_bd m.z0).1 rfl rfl a1 a2 b1 b2
theorem up_c (z x y : Int) (w : World) (h : tilB z x y = true) (hz : 0 < z) : Calls Try.prog 21 #[.agg #[.int .i64 z, .int .i64 x, .int .i64 y]] w fun e w' => e = .returned (.tuple #[.agg #[.int .i64 (z - 1), .int .i64 (x / 2), .int .i64 (y / 2)], .bool true]) ∧ Below w.heap.size w w' := by
  have m := may_of h
  have hb := manyI_bd m.z1
  exact up_yes z x y w hz m.z1 (Lib.hid h) m.x0 m.y0 (by have := m.x1; omega) (by have := m.y1; omega)
theorem parts_c (z x y : Int) (w : World) (h : tilB z x y = true) (hz : z ≤ 28) : Calls Try.prog 23 #[.agg #[.int .i64 z, .int .i64 x, .int .i64 y]] w (PartsPost z x y w) := by
  have m := may_of h
  have hb := manyI_bd m.z1
  exact parts_yes z x y w m.z0 hz (Lib.hid h) m.x0 m.y0 (by have := m.x1; omega) (by have := m.y1; omega)

theorem many_step {z : Int} (h : 0 < z) : manyI z = 2 * manyI (z - 1) := by
  unfold manyI
  have : z.toNat = (z - 1).toNat + 1 := by omega
  rw [this, Int.pow_succ]; omega
theorem side_step {z : Int} (h0 : 0 ≤ z) (h : z ≤ 28) : sideI z = 2 * sideI (z + 1) := by
  unfold sideI
  have : (30 - z).toNat = (30 - (z + 1)).toNat + 1 := by omega
  rw [this, Int.pow_succ]; omega
theorem may_up {z x y : Int} (h : tilB z x y = true) (hz : 0 < z) : tilB (z - 1) (x / 2) (y / 2) = true := by
  have m := may_of h
  have := many_step hz
  have h1 := m.x1
  have h2 := m.y1
  have h3 := m.z1
  have h4 := m.x0
  have h5 := m.y0
  exact of_may ⟨by omega, by omega, by omega, by omega, by omega, by omega⟩
theorem may_down {z x y : Int} (h : tilB z x y = true) (hz : z ≤ 28) (d : Nat) (hd : d < 4) : tilB (z + 1) (2 * x + (d : Int) % 2) (2 * y + (d : Int) / 2) = true := by
  have m := may_of h
  have h3 := m.z0
  have hs : manyI (z + 1) = 2 * manyI z := by have := many_step (z := z + 1) (by omega); rwa [show z + 1 - 1 = z by omega] at this
  have h1 := m.x1
  have h2 := m.y1
  have h4 := m.x0
  have h5 := m.y0
  exact of_may ⟨by omega, by omega, by omega, by omega, by omega, by omega⟩
theorem box_down {z x y : Int} (h : tilB z x y = true) (hz : z ≤ 28) (d : Nat) (hd : d < 4) : loI z x ≤ loI (z + 1) (2 * x + (d : Int) % 2) ∧ loI z y ≤ loI (z + 1) (2 * y + (d : Int) / 2) ∧
    hiI (z + 1) (2 * x + (d : Int) % 2) ≤ hiI z x ∧ hiI (z + 1) (2 * y + (d : Int) / 2) ≤ hiI z y := by
  have m := may_of h
  have hs := side_step m.z0 hz
  have h0 := (sideI_bd (z := z + 1) (by have := m.z0; omega)).1
  unfold hiI loI
  rw [hs]
  generalize sideI (z + 1) = S at *
  have hX : ∀ v e : Int, (2 * v + e) * S = v * (2 * S) + e * S := fun v e => by rw [Int.add_mul, Int.mul_comm 2 v, Int.mul_assoc]
  rw [hX, hX]
  have hd4 : d = 0 ∨ d = 1 ∨ d = 2 ∨ d = 3 := by omega
  rcases hd4 with rfl | rfl | rfl | rfl <;> simp <;> omega

theorem kb_size (z x y : Int) : (KB z x y).size = z.toNat := by
  unfold KB; show (keyL z.toNat x y).toArray.size = _; rw [List.size_toArray, keyL_len]
theorem kb_up {z : Int} (x y : Int) (hz : 0 < z) : (KB z x y).extract 0 ((KB z x y).size - 1) = KB (z - 1) (x / 2) (y / 2) := by
  apply ByteArray.ext
  rw [ByteArray.data_extract, kb_size]
  unfold KB
  have e : z.toNat = (z - 1).toNat + 1 := by omega
  rw [e, keyL_succ]
  simp [keyL_len]
theorem kb_down {z : Int} (x y : Int) (hz : 0 ≤ z) (d : Nat) (hd : d < 4) : KB (z + 1) (2 * x + (d : Int) % 2) (2 * y + (d : Int) / 2) = KB z x y ++ (⟨#[48, 49, 50, 51]⟩ : ByteArray).extract d (d + 1) := by
  apply ByteArray.ext
  unfold KB
  have e : (z + 1).toNat = z.toNat + 1 := by omega
  rw [e, keyL_succ]
  have h1 : (2 * x + (d : Int) % 2) / 2 = x := by omega
  have h2 : (2 * y + (d : Int) / 2) / 2 = y := by omega
  rw [h1, h2]
  have hd4 : d = 0 ∨ d = 1 ∨ d = 2 ∨ d = 3 := by omega
  rcases hd4 with rfl | rfl | rfl | rfl <;> simp [digI, Int.add_emod] <;> rfl

theorem keyL_good (n : Nat) : ∀ x y, (keyL n x y).all goodB = true := by
  intro x y
  rw [List.all_eq_true]
  intro c hc
  unfold keyL at hc
  rw [List.mem_map] at hc
  obtain ⟨d, hd, rfl⟩ := hc
  have := keyI_dig n x y d hd
  unfold goodB
  simp only [Bool.and_eq_true, decide_eq_true_eq]
  rw [UInt8.toNat_ofNat']
  omega
theorem pXY_key (n : Nat) : ∀ x y : Int, 0 ≤ x → x < 2 ^ n → 0 ≤ y → y < 2 ^ n → pXY (keyL n x y) = (x, y) := by
  induction n with
  | zero => intro x y h0 h1 h2 h3; simp at h1 h3; have : keyL 0 x y = [] := rfl; rw [this]; simp [pXY]; omega
  | succ n ih =>
    intro x y h0 h1 h2 h3
    rw [Int.pow_succ] at h1 h3
    rw [keyL_succ, pXY_snoc, ih (x / 2) (y / 2) (by omega) (by omega) (by omega) (by omega)]
    have e : ((UInt8.ofNat (digI x y).toNat).toNat : Int) = digI x y := by
      rw [UInt8.toNat_ofNat']; unfold digI; omega
    rw [e]
    unfold digI
    ext <;> simp <;> omega
theorem parse_kb {z x y : Int} (h : tilB z x y = true) : parseV (KB z x y) = .tuple #[.agg #[.int .i64 z, .int .i64 x, .int .i64 y], .int .i64 0] := by
  have m := may_of h
  have hs := kb_size z x y
  have hd : (KB z x y).data.toList = keyL z.toNat x y := by unfold KB; rfl
  unfold parseV
  rw [if_pos ⟨by rw [hs]; have := m.z1; omega, by rw [hd]; exact keyL_good _ _ _⟩, hs, hd, pXY_key _ _ _ m.x0 m.x1 m.y0 m.y1]
  have : ((z.toNat : Nat) : Int) = z := by have := m.z0; omega
  rw [this]
theorem key_pXY (l : List UInt8) (h : l.all goodB = true) : keyL l.length (pXY l).1 (pXY l).2 = l := by
  induction l using snoc_ind with
  | nil => rfl
  | snoc l c ih =>
    rw [List.all_append] at h
    simp only [Bool.and_eq_true, List.all_cons, List.all_nil, Bool.and_true] at h
    obtain ⟨h1, h2⟩ := h
    unfold goodB at h2
    simp only [Bool.and_eq_true, decide_eq_true_eq] at h2
    have := pXY_bd l h1
    rw [pXY_snoc, List.length_append, List.length_singleton, keyL_succ]
    simp only
    have e1 : (2 * (pXY l).1 + ((c.toNat : Int) - 48) % 2) / 2 = (pXY l).1 := by omega
    have e2 : (2 * (pXY l).2 + ((c.toNat : Int) - 48) / 2) / 2 = (pXY l).2 := by omega
    rw [e1, e2, ih h1]
    congr 2
    have e3 : (digI (2 * (pXY l).1 + ((c.toNat : Int) - 48) % 2) (2 * (pXY l).2 + ((c.toNat : Int) - 48) / 2)).toNat = c.toNat := by unfold digI; omega
    rw [e3]
    exact UInt8.ofNat_toNat
/-- A right key: its tile may be, and has that key. -/
theorem right_key (s : ByteArray) (h : s.size ≤ 29) (hg : s.data.toList.all goodB = true) : tilB s.size (pXY s.data.toList).1 (pXY s.data.toList).2 = true ∧ KB s.size (pXY s.data.toList).1 (pXY s.data.toList).2 = s := by
  have hl : s.data.toList.length = s.size := by simp
  have hb := pXY_bd _ hg
  rw [hl] at hb
  refine ⟨of_may ⟨by omega, by omega, hb.1, hb.2.2.1, ?_, ?_⟩, ?_⟩
  · unfold manyI; rw [Int.toNat_natCast]; exact hb.2.1
  · unfold manyI; rw [Int.toNat_natCast]; exact hb.2.2.2
  · apply ByteArray.ext
    unfold KB
    rw [Int.toNat_natCast]
    have := key_pXY _ hg
    rw [hl] at this
    simp only
    rw [this]
end Go.Proofs.Ytnpilmjpinmgfaa
