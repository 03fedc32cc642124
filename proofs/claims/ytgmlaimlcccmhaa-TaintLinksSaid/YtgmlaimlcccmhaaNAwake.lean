/-
  THE LAW's OWN SMALL EXAMPLE: awake. CONDITIONS: none.
-/
import Derived.Test.YtgmlaimlcccmhaaNClean
namespace Go.Proofs.Ytgmlaimlcccmhaa
open Go.RowKit Go.Proofs.Ytgmlaimlcccmhaa.Tame
set_option maxHeartbeats 400000

def awLs : Ls := fun i => if i = 0 then ⟨0, 2, 4, -1⟩ else if i = 1 then ⟨1, 0, 3, -1⟩ else ⟨1, 2, 7, 0⟩
theorem aw0 : awLs 0 = ⟨0, 2, 4, -1⟩ := rfl
theorem aw1 : awLs 1 = ⟨1, 0, 3, -1⟩ := rfl
theorem aw2 : awLs 2 = ⟨1, 2, 7, 0⟩ := rfl
theorem lt3 {P : Nat → Prop} (h0 : P 0) (h1 : P 1) (h2 : P 2) : ∀ i, i < 3 → P i := fun i hi => by
  match i, hi with
  | 0, _ => exact h0
  | 1, _ => exact h1
  | 2, _ => exact h2
theorem aw_may : MayP 3 idF 3 awLs := by
  refine ⟨fun i hi => ⟨Int.natCast_nonneg i, Int.ofNat_lt.2 hi, fun j hj e => ?_⟩, lt3 ?_ ?_ ?_, ?_⟩
  · have h2 : (j : Int) = (i : Int) := e
    omega
  · unfold LkOK Vtx; rw [aw0]; exact ⟨by decide, by decide, by decide, by decide, by decide, fun h => absurd h (Nat.lt_irrefl _)⟩
  · unfold LkOK Vtx; rw [aw1]; exact ⟨by decide, by decide, by decide, by decide, by decide, fun _ => .inl (by decide)⟩
  · unfold LkOK Vtx; rw [aw2]; exact ⟨by decide, by decide, by decide, by decide, by decide, fun _ => .inr ⟨rfl, by decide⟩⟩
  · rintro ⟨i, hi, hm, hn⟩
    revert hm hn
    refine lt3 (P := fun i => (awLs i).m ≠ -1 → ¬ JnP 3 idF 3 awLs (awLs i) → False) ?_ ?_ ?_ i hi
    · intro hm; exact absurd rfl hm
    · intro hm; exact absurd rfl hm
    · intro _ hn
      refine hn ⟨⟨by decide, by decide⟩, ?_, ?_, 1, 0, by omega, by omega, ⟨rfl, rfl⟩, ⟨rfl, rfl⟩, by decide⟩
      · show idF 0 < idF 1
        decide
      · show idF 0 < idF 2
        decide
def awC : Fl := fun i => i == 0
theorem aw_tainted : tnF awC awLs 3 3 2 = true := by decide
theorem aw_clean : ClnP 3 3 awLs (fun _ => false) (tnF (fun _ => false) awLs 3 3) 2 (fun i => (i : Int) + 1) := by
  refine ⟨by decide, fun i hi => ?_⟩
  match i, hi with
  | 0, _ => exact ⟨⟨by decide, by decide⟩, rfl, fun h => absurd h (Nat.lt_irrefl _)⟩
  | 1, _ => exact ⟨⟨by decide, by decide⟩, rfl, fun _ => ⟨2, by decide, by decide⟩⟩
theorem ints_block {w : World} {b n : Nat} {cs : Array Value} {t : TypeId} {fz : Nat × Nat} {f : Fn} (h : w.heap[b]? = some (.cells cs t fz)) (hc : ∀ i, i < n → cs[i]? = some (.int .i64 (f i))) : IntsAt w (some ⟨b, 0, none⟩) n f :=
  fun _ => ⟨b, 0, rfl, fun i hi => by rw [Nat.zero_add]; exact cell_of_block h (hc i hi)⟩
theorem bools_block {w : World} {b n : Nat} {cs : Array Value} {t : TypeId} {fz : Nat × Nat} {f : Fl} (h : w.heap[b]? = some (.cells cs t fz)) (hc : ∀ i, i < n → cs[i]? = some (.bool (f i))) : BoolsAt w (some ⟨b, 0, none⟩) n f :=
  fun _ => ⟨b, 0, rfl, fun i hi => by rw [Nat.zero_add]; exact cell_of_block h (hc i hi)⟩
def awCells : Array Value := #[.int .i64 0, .int .i64 2, .int .i64 4, .int .i64 (-1), .int .i64 1, .int .i64 0, .int .i64 3, .int .i64 (-1), .int .i64 1, .int .i64 2, .int .i64 7, .int .i64 0]
theorem aw_links {w : World} {b : Nat} {t : TypeId} (h : w.heap[b]? = some (.cells awCells t (0, 0))) : LinksAt w (some ⟨b, 0, none⟩) 3 awLs :=
  fun _ => ⟨b, 0, rfl, lt3 ⟨cell_of_block h rfl, cell_of_block h rfl, cell_of_block h rfl, cell_of_block h rfl⟩ ⟨cell_of_block h rfl, cell_of_block h rfl, cell_of_block h rfl, cell_of_block h rfl⟩ ⟨cell_of_block h rfl, cell_of_block h rfl, cell_of_block h rfl, cell_of_block h rfl⟩⟩
set_option maxRecDepth 100000 in
set_option maxHeartbeats 1000000 in
theorem awake_any (w : World) : Calls Try.prog 5 #[] w fun e w' => e = .returned (.bool true) ∧ Below w.heap.size w w' := by
  go_enter Try.func5, Try.ntmps5
  go_upto_region 2 with (fail)
  refine wp_at (fun W1 hW1 => ?_)
  have hb1 : Below w.heap.size w W1 := by rw [hW1]; go_grown
  have g0 : W1.heap[w.heap.size]? = some (.cells #[.int .i64 0, .int .i64 1, .int .i64 2] 3 (0, 0)) := by rw [hW1]; exact heap_alloc_lt (heap_alloc_lt (heap_alloc_is rfl))
  have g1 : W1.heap[w.heap.size + 1]? = some (.cells awCells 40 (0, 0)) := by rw [hW1]; exact heap_alloc_lt (heap_alloc_is (by simp))
  have g2 : W1.heap[w.heap.size + 1 + 1]? = some (.cells #[.slice (some ⟨w.heap.size, 0, none⟩) 3 3, .slice (some ⟨w.heap.size + 1, 0, none⟩) 3 3] 25 (0, 0)) := by rw [hW1]; exact heap_alloc_is (by simp)
  clear hW1
  have hh : HAt W1 (some ⟨w.heap.size, 0, none⟩) 3 idF (some ⟨w.heap.size + 1, 0, none⟩) 3 awLs := ⟨ints_block g0 (lt3 rfl rfl rfl), aw_links g1⟩
  have HH := Lib.hid hh
  have G2 := Lib.hid g2
  have c0 : W1.cell? ⟨w.heap.size + 1 + 1, 0, none⟩ = some (.slice (some ⟨w.heap.size, 0, none⟩) 3 3) := cell_of_block g2 rfl
  have c1 : W1.cell? ⟨w.heap.size + 1 + 1, 1, none⟩ = some (.slice (some ⟨w.heap.size + 1, 0, none⟩) 3 3) := cell_of_block g2 rfl
  have hs1 := lt_of_some g2
  clear g0 g1 g2 hh
  go_wp2_with fail
  refine (links_yes _ _ _ _ _ _ _ _ idF awLs awC _ (by decide) (by decide) (HH.out.below (by go_grown)) (bools_block (heap_alloc_is rfl) (lt3 rfl rfl rfl)) aw_may).mono ?_
  rintro e w2 ⟨u, rfl, hu, hfl, hb2⟩
  have hb12 : Below W1.heap.size W1 w2 := (by go_grown : Below W1.heap.size W1 (W1.alloc (.cells #[.bool true, .bool false, .bool false] 4))).trans (hb2.mono (by simp))
  have cu : w2.cell? ⟨u, 2, none⟩ = some (.bool true) := by have := hfl.cell (i := 2) (by decide); rw [aw_tainted] at this; exact this
  have hw2 := hb1.trans (hb12.mono hb1.size)
  have HH2 := Lib.hid (HH.out.below hb12)
  have g2 := keep2 hb12 G2.out
  have hul : u < w2.heap.size := hfl.lt
  clear hb2 hfl hb12 c0 c1 HH hb1 hu hs1
  have c0 : w2.cell? ⟨w.heap.size + 1 + 1, 0, none⟩ = some (.slice (some ⟨w.heap.size, 0, none⟩) 3 3) := cell_of_block g2 rfl
  have c1 : w2.cell? ⟨w.heap.size + 1 + 1, 1, none⟩ = some (.slice (some ⟨w.heap.size + 1, 0, none⟩) 3 3) := cell_of_block g2 rfl
  have hs2 := lt_of_some g2
  clear g2
  have CU := Lib.hid cu
  go_wp2_with fail
  refine (clean_yes _ _ _ _ _ _ _ _ _ _ _ idF awLs (fun _ => false) (fun i => (i : Int) + 1) _ (by decide) (by decide) (by decide) (HH2.out.below (by go_grown)) (bools_block (heap_alloc_lt (heap_alloc_is rfl)) (lt3 rfl rfl rfl)) (ints_block (heap_alloc_is (by simp)) ?_) aw_may).mono ?_
  · intro i hi
    match i, hi with
    | 0, _ => rfl
    | 1, _ => rfl
  rw [bOf_yes aw_clean]
  rintro e w3 ⟨rfl, hb3⟩
  have hb23 : Below w2.heap.size w2 w3 := (by go_grown : Below w2.heap.size w2 ((w2.alloc (.cells #[.bool false, .bool false, .bool false] 4)).alloc (.cells #[.int .i64 1, .int .i64 2] 3))).trans (hb3.mono (by simp; omega))
  have cu3 := cell_later hb23 CU.out
  have hw3 := hw2.trans (hb23.mono hw2.size)
  clear hb3 hb23 cu c0 c1 hw2 hs2 hul
  go_wp2_with fail
  go_ret
  exact ⟨rfl, hw3⟩
end Go.Proofs.Ytgmlaimlcccmhaa
