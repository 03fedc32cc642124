/-
  THE WALK OF THE TILES' OWN EXAMPLE (awake). CONDITIONS: none.
-/
import Derived.Test.YtnpilmjpinmgfaaTParse
import Derived.Lib.Hide
namespace Go.Proofs.Ytnpilmjpinmgfaa
open Go.RowKit Go.Proofs.Ytnpilmjpinmgfaa.Tame
set_option maxHeartbeats 400000
theorem keep' {W w1 : World} {k : Nat} {o : Obj} (hb : Below W.heap.size W w1) (g : W.heap[k]? = some o) : w1.heap[k]? = some o := (hb.block _ (lt_of_some g)).trans g
theorem tawake_any (w : World) : Calls Try.prog 9 #[] w fun e w' => e = .returned (.bool true) ∧ Below w.heap.size w w' := by
  have K1 : Hid (∀ w, Calls Try.prog 17 #[.agg #[.int .i64 2, .int .i64 1, .int .i64 2]] w fun e w' => e = .returned (.tuple #[.string ⟨#[50, 49]⟩, .int .i64 0]) ∧ Below w.heap.size w w') := Lib.hid fun w => by
    have h := tkey_at 2 1 2 w (by omega) (Lib.hid (by decide))
    have e : keyL 2 1 2 = [50, 49] := by decide
    rw [e] at h
    exact h
  have P1 : Hid (∀ w, Calls Try.prog 18 #[.string ⟨#[50, 49]⟩] w fun e w' => e = .returned (.tuple #[.agg #[.int .i64 2, .int .i64 1, .int .i64 2], .int .i64 0]) ∧ Below w.heap.size w w') := Lib.hid fun w => parse_any ⟨#[50, 49]⟩ w (by decide)
  have O1 : Hid (∀ w, Calls Try.prog 8 #[.agg #[.int .i64 5, .int .i64 (-5)], .int .i64 1] w fun e w' => e = .returned (.tuple #[.agg #[.int .i64 1, .int .i64 1, .int .i64 0], .int .i64 0]) ∧ Below w.heap.size w w') := Lib.hid fun w => by
    have h := of_yes 5 (-5) 1 w (by unfold okI; omega) (by unfold okI; omega) (by omega) (by omega)
    have e1 : colI 5 1 = 1 := by decide
    have e2 : colI (-5) 1 = 0 := by decide
    rw [e1, e2] at h
    exact h
  go_enter Try.func9, Try.ntmps9
  go_wp2_with fail
  refine (K1.out _).mono ?_
  rintro e w1 ⟨rfl, hb1⟩
  go_wp2_with fail
  refine (P1.out _).mono ?_
  rintro e w2 ⟨rfl, hb2⟩
  have hw2 := hb1.trans (hb2.mono hb1.size)
  have hz2 := hw2.size
  go_wp2_with fail
  refine (O1.out _).mono ?_
  rintro e w3 ⟨rfl, hb3⟩
  have g3 : w3.heap[w2.heap.size]? = some (.cells #[.int .i64 2, .int .i64 1, .int .i64 2] 25) := keep' hb3 (heap_alloc_is rfl)
  have hw3 := (hw2.alloc hz2 (.cells #[.int .i64 2, .int .i64 1, .int .i64 2] 25)).trans (hb3.mono (by simp; omega))
  have c0 : w3.cell? ⟨w2.heap.size, 0, none⟩ = some (.int .i64 2) := cell_of_block g3 rfl
  have c1 : w3.cell? ⟨w2.heap.size, 1, none⟩ = some (.int .i64 1) := cell_of_block g3 rfl
  have c2 : w3.cell? ⟨w2.heap.size, 2, none⟩ = some (.int .i64 2) := cell_of_block g3 rfl
  have hlt := lt_of_some g3
  clear hb1 hb2 hb3
  go_wp2_with fail
  go_ret
  exact ⟨rfl, hw3.alloc hw3.size _⟩

end Go.Proofs.Ytnpilmjpinmgfaa
