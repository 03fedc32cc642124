/-
  THE WALK OF tile.Parts: the four tiles below. CONDITIONS: the tile may be and has tiles below (else: none).
-/
import Derived.Test.YtnpilmjpinmgfaaTMore
import Derived.Lib.Hide
import Derived.OwnWalk
import Derived.Deep.AppendLies
namespace Go.Proofs.Ytnpilmjpinmgfaa
open Go.RowKit Go.Proofs.Ytnpilmjpinmgfaa.Tame
set_option maxHeartbeats 400000

theorem info25 : (Try.prog.info? 25).map (fun i => (i.zero, i.size, i.bytes)) = some (some (.agg #[.int .i64 0, .int .i64 0, .int .i64 0]), 3, 24) := by kernel_rfl
/-- The cells of the first k tiles below. -/
def partsL (z x y : Int) : Nat → List Value
  | 0 => []
  | k + 1 => partsL z x y k ++ [.int .i64 (z + 1), .int .i64 (2 * x + (k : Int) % 2), .int .i64 (2 * y + (k : Int) / 2)]
/-- What Parts answers: four tiles. -/
def PartsPost (z x y : Int) (w : World) (e : Ending) (w' : World) : Prop := ∃ g cap : Nat, e = .returned (.slice (some ⟨g, 0, none⟩) 4 cap) ∧ w.heap.size ≤ g ∧ w'.ownsRow w.heap.size 25 3 (.slice (some ⟨g, 0, none⟩) 4 cap) 4 (partsL z x y 4) ∧ Below w.heap.size w w'

theorem own_base {w : World} {b b' : Nat} {e : TypeId} {size : Nat} {v : Value} {n : Nat} {xs : List Value} (h : w.ownsRow b e size v n xs) (hb : b' ≤ b) : w.ownsRow b' e size v n xs := by
  refine ⟨h.1, ?_⟩
  rcases h.2 with h2 | ⟨g, cap, cur, h1, h2, h3⟩
  · exact .inl h2
  · exact .inr ⟨g, cap, cur, h1, by omega, h3⟩
theorem parts_yes (z x y : Int) (w : World) (hz0 : 0 ≤ z) (hz1 : z ≤ 28) (ht : Hid (tilB z x y = true)) (hx0 : 0 ≤ x) (hy0 : 0 ≤ y) (hx1 : x ≤ 536870912) (hy1 : y ≤ 536870912) :
    Calls Try.prog 23 #[.agg #[.int .i64 z, .int .i64 x, .int .i64 y]] w (PartsPost z x y w) := by
  obtain ⟨i0, hi0, hz0', hz1', hz2'⟩ := info_parts info25
  go_enter Try.func23, Try.ntmps23
  go_wp2_with fail
  refine (tile_any z x y _).mono ?_
  rintro e w2 ⟨rfl, hb2⟩
  rw [ht.out]
  have hw := (by go_grown : Below w.heap.size w (w.alloc (.cells #[.int .i64 z, .int .i64 x, .int .i64 y] 25))).trans (hb2.mono (by simp))
  have g0 : w2.heap[w.heap.size]? = some (.cells #[.int .i64 z, .int .i64 x, .int .i64 y] 25) := (hb2.block _ (by simp)).trans (heap_alloc_is rfl)
  have hzz := lt_of_some g0
  clear hb2
  have c0 : w2.cell? ⟨w.heap.size, 0, none⟩ = some (.int .i64 z) := cell_of_block g0 rfl
  have hb0 : (z == 29) = false := beq_eq_false_iff_ne.2 (by omega)
  go_wp2_with fail
  clear c0
  go_loopw [3, 13] (fun s3 s13 wr => ∃ k : Nat, k ≤ 4 ∧ s13 = .int .i64 k ∧ wr.ownsRow (w.heap.size + 1) 25 3 s3 k (partsL z x y k) ∧ Below (w.heap.size + 1) w2 wr) (fun _ s13 _ => 4 - (intOf s13).toNat)
  case atStart => exact ⟨0, by omega, rfl, World.ownsRow_nil _ _ _ _, Below.refl _ _⟩
  case round =>
    obtain ⟨k, hk, rfl, hown, hbr⟩ := hrel
    have gr := (hbr.block _ (by omega)).trans g0
    have hzr := lt_of_some gr
    by_cases hlt : k < 4
    · have c0 : wr.cell? ⟨w.heap.size, 0, none⟩ = some (.int .i64 z) := cell_of_block gr rfl
      have c1 : wr.cell? ⟨w.heap.size, 1, none⟩ = some (.int .i64 x) := cell_of_block gr rfl
      have c2 : wr.cell? ⟨w.heap.size, 2, none⟩ = some (.int .i64 y) := cell_of_block gr rfl
      go_wp2_with (at_builtin; refine wpList_append_lies _ rfl _ _ 50 rfl (w.heap.size + 1) 25 i0 _ 3 24 Try.underlying50 hi0 hz0' hz1' hz2' rfl (by decide) _ k _ rfl (hown.alloc _) ⟨wr.heap.size, 0, none⟩ 1 1 [.int .i64 (z + 1), .int .i64 (2 * x + (k : Int) % 2), .int .i64 (2 * y + (k : Int) / 2)] rfl rfl (World.news_of_block (cs := #[.int .i64 (z + 1), .int .i64 (2 * x + (k : Int) % 2), .int .i64 (2 * y + (k : Int) / 2)]) (t := 25) (fr := (0, 0)) (heap_alloc_new wr _)) (by simp [Value.oneCell']) (by decide) (by unfold maxLen; omega) (by omega) (by simp; omega) _ rfl ?_; intro g cap w3 hown3 hgrow hat hlt3)
      have hb3 : Below (w.heap.size + 1) w2 w3 := ((hbr.alloc (by omega) _).grown hgrow (by simp; omega) (fun k hk => (hown.lt k hk).1))
      have Hown := Lib.hid hown3
      clear hown3 hown hgrow hat hlt3 hbr c0 c1 c2
      go_roundw
      case rel => exact ⟨k + 1, by omega, by go_num, Hown.out, hb3⟩
      case measure => simp [intOf]; omega
    · obtain rfl : k = 4 := by omega
      obtain ⟨g, cap, rfl, hg1, hg2⟩ := hown.form (by omega)
      have hfin := hw.trans (hbr.mono (by omega))
      have Hown := Lib.hid (own_base hown (Nat.le_succ _))
      clear hown
      go_wp2
      go_ret
      exact ⟨g, cap, rfl, by omega, Hown.out, hfin⟩

theorem parts_no (z x y : Int) (w : World) (b : Bool) (ht : Hid (tilB z x y = b)) (h : b = false ∨ z = 29) :
    Calls Try.prog 23 #[.agg #[.int .i64 z, .int .i64 x, .int .i64 y]] w fun e w' => e = .returned (.slice none 0 0) ∧ Below w.heap.size w w' := by
  rcases h with rfl | rfl
  all_goals
    go_enter Try.func23, Try.ntmps23
    go_wp2_with fail
    refine (tile_any _ x y _).mono ?_
    rintro e w2 ⟨rfl, hb2⟩
    rw [ht.out]
    have hw := (by go_grown : Below w.heap.size w (w.alloc (.cells #[.int .i64 _, .int .i64 x, .int .i64 y] 25))).trans (hb2.mono (by simp))
    have g0 : w2.heap[w.heap.size]? = some (.cells #[.int .i64 _, .int .i64 x, .int .i64 y] 25) := (hb2.block _ (by simp)).trans (heap_alloc_is rfl)
    clear hb2
    have c0 : w2.cell? ⟨w.heap.size, 0, none⟩ = some (.int .i64 _) := cell_of_block g0 rfl
    try cases b
    all_goals
      go_wp2_with fail
      go_ret
      exact ⟨rfl, hw⟩
end Go.Proofs.Ytnpilmjpinmgfaa
