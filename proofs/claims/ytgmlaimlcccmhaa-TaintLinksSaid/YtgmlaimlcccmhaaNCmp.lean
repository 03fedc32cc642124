/-
  Or, THE ORDER OF LINKS AND ENDS. CONDITIONS: stated.
-/
import Derived.Test.YtgmlaimlcccmhaaNBase
import Derived.StillTailTactics
import Derived.Lib.Hide
import Derived.BigQuiet
namespace Go.Proofs.Ytgmlaimlcccmhaa
open Go.RowKit Go.Proofs.Ytgmlaimlcccmhaa.Tame
set_option maxHeartbeats 400000

def orI (x y : Int) : Int := if x = 0 then y else x
def UpTo (n : Nat) (s : Value) : Prop := ∃ k : Nat, k ≤ n ∧ s = .int .i64 k
theorem or_any (g cap : Nat) (x y : Int) (w : World) (c0 : w.cell? ⟨g, 0, none⟩ = some (.int .i64 x)) (c1 : w.cell? ⟨g, 1, none⟩ = some (.int .i64 y)) :
    Calls Try.prog 32 #[.slice (some ⟨g, 0, none⟩) 2 cap] w fun e w' => e = .returned (.int .i64 (orI x y)) ∧ w = w' := by
  unfold orI
  by_cases hx : x = 0
  · rw [if_pos hx]
    subst hx
    by_cases hy : y = 0
    · subst hy
      go_enter Try.func32, Try.ntmps32
      go_wp2
      go_loop [8] (UpTo 2) (fun s8 => 2 - (intOf s8).toNat)
      case atStart => exact ⟨0, by omega, rfl⟩
      case round =>
        obtain ⟨k, hk, rfl⟩ := hrel
        match k, hk with
        | 0, _ =>
          go_wp2
          go_round
          case rel => exact ⟨1, by omega, rfl⟩
          case measure => simp [intOf]
        | 1, _ =>
          go_wp2
          go_round
          case rel => exact ⟨2, by omega, rfl⟩
          case measure => simp [intOf]
        | 2, _ =>
          go_wp2
          go_ret
          exact ⟨rfl, rfl⟩
    · have hb : (y == 0) = false := beq_eq_false_iff_ne.2 hy
      go_enter Try.func32, Try.ntmps32
      go_wp2
      go_loop [8] (UpTo 1) (fun s8 => 2 - (intOf s8).toNat)
      case atStart => exact ⟨0, by omega, rfl⟩
      case round =>
        obtain ⟨k, hk, rfl⟩ := hrel
        match k, hk with
        | 0, _ =>
          go_wp2
          go_round
          case rel => exact ⟨1, by omega, rfl⟩
          case measure => simp [intOf]
        | 1, _ =>
          go_wp2
          go_ret
          exact ⟨rfl, rfl⟩
  · rw [if_neg hx]
    have hb : (x == 0) = false := beq_eq_false_iff_ne.2 hx
    go_enter Try.func32, Try.ntmps32
    go_wp2
    go_loop [8] (UpTo 0) (fun s8 => 2 - (intOf s8).toNat)
    case atStart => exact ⟨0, by omega, rfl⟩
    case round =>
      obtain ⟨k, hk, rfl⟩ := hrel
      match k, hk with
      | 0, _ =>
        go_wp2
        go_ret
        exact ⟨rfl, rfl⟩

def ordI (a b x y : Int) : Int := orI (cmpI a x) (cmpI b y)
theorem order_any (a b q m x y : Int) (w : World) :
    Calls Try.prog 27 #[.agg #[.int .i64 a, .int .i64 b, .int .i64 q, .int .i64 m], .agg #[.int .i64 x, .int .i64 y]] w fun e w' => e = .returned (.int .i64 (ordI a b x y)) ∧ Below w.heap.size w w' := by
  unfold ordI
  generalize h1 : cmpI a x = r1
  generalize h2 : cmpI b y = r2
  have H1 := Lib.hid h1
  have H2 := Lib.hid h2
  clear h1 h2
  go_enter Try.func27, Try.ntmps27
  go_wp2_with fail
  refine wp_at (fun W2 hW2 => ?_)
  have hsz : W2.drew.heap.size = w.heap.size + 2 := by subst hW2; simp
  have hbl : Below w.heap.size w W2.drew := by subst hW2; go_grown
  have g0 : W2.drew.heap[w.heap.size]? = some (.cells #[.int .i64 a, .int .i64 b, .int .i64 q, .int .i64 m] 40) := by subst hW2; exact heap_alloc_lt (heap_alloc_is rfl)
  have g1 : W2.drew.heap[w.heap.size + 1]? = some (.cells #[.int .i64 x, .int .i64 y] 58) := by subst hW2; exact heap_alloc_is (by simp)
  clear hW2
  refine wp_region_still_tail 10 (by kernel_rfl) (by kernel_rfl) ?_
  simp only [List.take_succ_cons, List.take_zero, List.drop_succ_cons, List.drop_zero]
  change wpStill Try.prog _ W2.drew (fun a' => wpList Try.prog _ _ _ a' W2.drew) _ _
  generalize W2.drew = W3 at *
  have c0 : W3.cell? ⟨w.heap.size, 0, none⟩ = some (.int .i64 a) := cell_of_block g0 rfl
  have c1 : W3.cell? ⟨w.heap.size, 1, none⟩ = some (.int .i64 b) := cell_of_block g0 rfl
  have c2 : W3.cell? ⟨w.heap.size + 1, 0, none⟩ = some (.int .i64 x) := cell_of_block g1 rfl
  have c3 : W3.cell? ⟨w.heap.size + 1, 1, none⟩ = some (.int .i64 y) := cell_of_block g1 rfl
  clear g0 g1
  repeat (first | still_step | still_call ((compare_any _ _ _).mono fun _ _ h => ⟨h.1, h.2.symm⟩))
  refine wpStill_nil ?_
  rw [H1.out, H2.out]
  go_wp2_with fail
  refine (or_any _ _ r1 r2 _ ?_ ?_).mono ?_
  · go_simp
  · go_simp
  rintro e w5 ⟨rfl, rfl⟩
  go_wp2_with fail
  go_ret
  exact ⟨rfl, hbl.alloc (by omega) _⟩
end Go.Proofs.Ytgmlaimlcccmhaa
