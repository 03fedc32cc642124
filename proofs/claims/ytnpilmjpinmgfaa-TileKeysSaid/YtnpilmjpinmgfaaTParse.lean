/-
  THE WALK OF tile.Parse: what a key is parsed to. CONDITIONS: none (each key; its length is a length).
-/
import Derived.Test.YtnpilmjpinmgfaaTKey
import Derived.Lib.Hide
namespace Go.Proofs.Ytnpilmjpinmgfaa
open Go.RowKit Go.Proofs.Ytnpilmjpinmgfaa.Tame
set_option maxHeartbeats 400000

def goodB (c : UInt8) : Bool := decide (48 ≤ c.toNat) && decide (c.toNat ≤ 51)
/-- The tile that a key's digits make. -/
def pXY (l : List UInt8) : Int × Int := l.foldl (fun p c => (2 * p.1 + ((c.toNat : Int) - 48) % 2, 2 * p.2 + ((c.toNat : Int) - 48) / 2)) (0, 0)
theorem pXY_snoc (l : List UInt8) (c : UInt8) : pXY (l ++ [c]) = (2 * (pXY l).1 + ((c.toNat : Int) - 48) % 2, 2 * (pXY l).2 + ((c.toNat : Int) - 48) / 2) := by
  unfold pXY; rw [List.foldl_append]; rfl
theorem snoc_ind {α : Type} {motive : List α → Prop} (nil : motive []) (snoc : ∀ l c, motive l → motive (l ++ [c])) (l : List α) : motive l := by
  have h : ∀ r : List α, motive r.reverse := by
    intro r
    induction r with
    | nil => exact nil
    | cons a r ih => rw [List.reverse_cons]; exact snoc _ _ ih
  have := h l.reverse
  rwa [List.reverse_reverse] at this
theorem pXY_bd (l : List UInt8) (h : l.all goodB = true) : 0 ≤ (pXY l).1 ∧ (pXY l).1 < 2 ^ l.length ∧ 0 ≤ (pXY l).2 ∧ (pXY l).2 < 2 ^ l.length := by
  induction l using snoc_ind with
  | nil => simp [pXY]
  | snoc l c ih =>
    rw [List.all_append] at h
    simp only [Bool.and_eq_true, List.all_cons, List.all_nil, Bool.and_true] at h
    obtain ⟨h1, h2⟩ := h
    have := ih h1
    unfold goodB at h2
    simp only [Bool.and_eq_true, decide_eq_true_eq] at h2
    rw [pXY_snoc, List.length_append, List.length_singleton, Int.pow_succ]
    simp only
    omega
theorem take_snoc (s : ByteArray) (k : Nat) (h : k < s.size) : s.data.toList.take (k + 1) = s.data.toList.take k ++ [s[k]] := by
  rw [List.take_succ_eq_append_getElem (by simpa using h)]; rfl
/-- What Parse answers. -/
def parseV (s : ByteArray) : Value :=
  if s.size ≤ 29 ∧ s.data.toList.all goodB = true then .tuple #[.agg #[.int .i64 s.size, .int .i64 (pXY s.data.toList).1, .int .i64 (pXY s.data.toList).2], .int .i64 0]
  else .tuple #[.agg #[.int .i64 0, .int .i64 0, .int .i64 0], .int .i64 2]
theorem ret_v {a b : Value} (h : a = b) : Ending.returned a = .returned b := by rw [h]

theorem parse_any (s : ByteArray) (w : World) (hs : s.size ≤ 9223372036854775807) :
    Calls Try.prog 18 #[.string s] w fun e w' => e = .returned (parseV s) ∧ Below w.heap.size w w' := by
  by_cases h29 : s.size ≤ 29
  · go_enter Try.func18, Try.ntmps18
    go_wp2
    go_loopw [16] (fun s16 wr => ∃ k : Nat, k ≤ s.size ∧ s16 = .int .i64 k ∧ Hid ((s.data.toList.take k).all goodB = true) ∧ Below w.heap.size w wr ∧ wr.heap[w.heap.size]? = some (.cells #[.int .i64 0, .int .i64 0, .int .i64 0] 25) ∧
        wr.heap[w.heap.size + 1]? = some (.cells #[.int .i64 s.size, .int .i64 (pXY (s.data.toList.take k)).1, .int .i64 (pXY (s.data.toList.take k)).2] 25)) (fun s16 _ => s.size - (intOf s16).toNat)
    case atStart => exact ⟨0, Nat.zero_le _, rfl, Lib.hid rfl, by go_grown, heap_alloc_lt (heap_alloc_is rfl), heap_alloc_is (by simp)⟩
    case round =>
      obtain ⟨k, hk, rfl, hgood, hb, g0, g1⟩ := hrel
      have hbd := pXY_bd _ hgood.out
      have hlen : (s.data.toList.take k).length ≤ 29 := by have := List.length_take_le k s.data.toList; omega
      have h2 := t2_le hlen
      have h2' : (2 : Int) ^ 29 = 536870912 := by decide
      rw [h2'] at h2
      have hX : 0 ≤ (pXY (s.data.toList.take k)).1 ∧ (pXY (s.data.toList.take k)).1 < 536870912 := by omega
      have hY : 0 ≤ (pXY (s.data.toList.take k)).2 ∧ (pXY (s.data.toList.take k)).2 < 536870912 := by omega
      clear hbd hlen h2 h2'
      have hz := lt_of_some g1
      by_cases hlt : k < s.size
      · have hsn := take_snoc s k hlt
        have hps := pXY_snoc (s.data.toList.take k) s[k]
        rw [← hsn] at hps
        have hga : (s.data.toList.take (k + 1)).all goodB = goodB s[k] := by rw [hsn, List.all_append, hgood.out]; simp
        have hall : goodB s[k] = false → s.data.toList.all goodB = false := fun h => by
          rw [← List.take_append_drop (k + 1) s.data.toList, List.all_append, hga, h, Bool.false_and]
        have Hps := Lib.hid hps
        have Hga := Lib.hid hga
        have Hall := Lib.hid hall
        clear hsn hps hga hall
        generalize pXY (s.data.toList.take k) = p at *
        have c0 : wr.cell? ⟨w.heap.size + 1, 1, none⟩ = some (.int .i64 p.1) := cell_of_block g1 rfl
        have c1 : wr.cell? ⟨w.heap.size + 1, 2, none⟩ = some (.int .i64 p.2) := cell_of_block g1 rfl
        have d0 : wr.frozen? ⟨w.heap.size + 1, 1, none⟩ = false := free_of_block g1
        have d1 : wr.frozen? ⟨w.heap.size + 1, 2, none⟩ = false := free_of_block g1
        have e0 : wr.cell? ⟨w.heap.size, 0, none⟩ = some (.int .i64 0) := cell_of_block g0 rfl
        have e1 : wr.cell? ⟨w.heap.size, 1, none⟩ = some (.int .i64 0) := cell_of_block g0 rfl
        have e2 : wr.cell? ⟨w.heap.size, 2, none⟩ = some (.int .i64 0) := cell_of_block g0 rfl
        have f0 : wr.frozen? ⟨w.heap.size, 0, none⟩ = false := free_of_block g0
        have f1 : wr.frozen? ⟨w.heap.size, 1, none⟩ = false := free_of_block g0
        have f2 : wr.frozen? ⟨w.heap.size, 2, none⟩ = false := free_of_block g0
        have hc0 : (0 : Int) ≤ (s[k].toNat : Int) := Int.natCast_nonneg _
        have hc1 : (s[k].toNat : Int) ≤ 255 := by have := UInt8.toNat_lt s[k]; omega
        by_cases hlo : (s[k].toNat : Int) - 48 < 0
        · go_wp2
          exact bodyPost_ret (v := .tuple #[.agg #[.int .i64 0, .int .i64 0, .int .i64 0], .int .i64 2]) (by simp [results, Try.results18, go_sem, e0, e1, e2]) rfl ⟨ret_v (if_neg (fun h => by rw [Hall.out (by unfold goodB; simp; omega)] at h; exact Bool.noConfusion h.2)).symm, ((hb.setCell (by simp) _).setCell (by simp) _).setCell (by simp) _⟩
        · by_cases hhi : 3 < (s[k].toNat : Int) - 48
          · go_wp2
            exact bodyPost_ret (v := .tuple #[.agg #[.int .i64 0, .int .i64 0, .int .i64 0], .int .i64 2]) (by simp [results, Try.results18, go_sem, e0, e1, e2]) rfl ⟨ret_v (if_neg (fun h => by rw [Hall.out (by unfold goodB; simp; omega)] at h; exact Bool.noConfusion h.2)).symm, ((hb.setCell (by simp) _).setCell (by simp) _).setCell (by simp) _⟩
          · go_wp2
            go_roundw
            case rel => exact ⟨k + 1, hlt, by go_num, Lib.hid (by rw [Hga.out]; unfold goodB; simp; omega), (hb.setCell (by simp) _).setCell (by simp) _, set_other (set_other g0 (by omega)) (by omega), by rw [Hps.out]; exact set_block (set_block g1)⟩
            case measure => simp [intOf]; omega
      · have hk' : k = s.size := by omega
        have ht : s.data.toList.take k = s.data.toList := List.take_of_length_le (by rw [hk']; simp)
        rw [ht] at hgood g1 hX hY
        have hv : parseV s = .tuple #[.agg #[.int .i64 s.size, .int .i64 (pXY s.data.toList).1, .int .i64 (pXY s.data.toList).2], .int .i64 0] := if_pos ⟨h29, hgood.out⟩
        have HV := Lib.hid hv
        clear hk' ht hv
        generalize pXY s.data.toList = p at *
        have c0 : wr.cell? ⟨w.heap.size + 1, 0, none⟩ = some (.int .i64 s.size) := cell_of_block g1 rfl
        have c1 : wr.cell? ⟨w.heap.size + 1, 1, none⟩ = some (.int .i64 p.1) := cell_of_block g1 rfl
        have c2 : wr.cell? ⟨w.heap.size + 1, 2, none⟩ = some (.int .i64 p.2) := cell_of_block g1 rfl
        have e0 : wr.cell? ⟨w.heap.size, 0, none⟩ = some (.int .i64 0) := cell_of_block g0 rfl
        have e1 : wr.cell? ⟨w.heap.size, 1, none⟩ = some (.int .i64 0) := cell_of_block g0 rfl
        have e2 : wr.cell? ⟨w.heap.size, 2, none⟩ = some (.int .i64 0) := cell_of_block g0 rfl
        have f0 : wr.frozen? ⟨w.heap.size, 0, none⟩ = false := free_of_block g0
        have f1 : wr.frozen? ⟨w.heap.size, 1, none⟩ = false := free_of_block g0
        have f2 : wr.frozen? ⟨w.heap.size, 2, none⟩ = false := free_of_block g0
        go_wp2
        exact bodyPost_ret (v := .tuple #[.agg #[.int .i64 s.size, .int .i64 p.1, .int .i64 p.2], .int .i64 0]) (by simp [results, Try.results18, go_sem, e0, e1, e2]) rfl ⟨ret_v HV.out.symm, ((hb.setCell (by simp) _).setCell (by simp) _).setCell (by simp) _⟩
  · have hv : parseV s = .tuple #[.agg #[.int .i64 0, .int .i64 0, .int .i64 0], .int .i64 2] := if_neg (fun h => h29 h.1)
    rw [hv]
    clear hv
    go_enter Try.func18, Try.ntmps18
    go_wp2
    exact bodyPost_ret (v := .tuple #[.agg #[.int .i64 0, .int .i64 0, .int .i64 0], .int .i64 2]) (by simp [results, Try.results18, go_sem]) rfl ⟨rfl, by go_grown⟩
end Go.Proofs.Ytnpilmjpinmgfaa
