/-
  A ROW OF NUMBERS IN MEMORY, AND EXCHANGES IN IT, PLAIN (HRow, turned to elements of one cell). CONDITIONS: stated.
-/
import Derived.Test.YtgmlaimlcccmhaaRows
import Derived.Test.YtgmlaimlcccmhaaTame
namespace Go.Proofs.Ytgmlaimlcccmhaa
open Go.RowKit Go.Proofs.Ytgmlaimlcccmhaa.Tame

theorem keep2 {W w1 : World} {k : Nat} {o : Obj} (hb : Below W.heap.size W w1) (g : W.heap[k]? = some o) : w1.heap[k]? = some o := (hb.block _ (lt_of_some g)).trans g
abbrev Fn := Nat → Int
/-- A row of cells holds these numbers. -/
def HasP (cur : Array Value) (n : Nat) (f : Fn) : Prop := ∀ i, i < n → cur[i]? = some (.int .i64 (f i))
/-- Block g holds the numbers f, and all but g is as it was in w0. -/
structure RowAt (w0 : World) (g n : Nat) (f : Fn) (W : World) : Prop where
  kept : Kept [g] w0 W
  row : ∃ cur, W.heap[g]? = some (.cells cur 3 (0, 0)) ∧ HasP cur n f
def swpF (f : Fn) (i j : Nat) : Fn := fun x => if x = i then f j else if x = j then f i else f x

theorem set_at (cur : Array Value) (i j : Nat) (v : Value) : (cur.setIfInBounds i v)[j]? = if i = j then (if i < cur.size then some v else none) else cur[j]? := by
  rw [Array.getElem?_setIfInBounds]
theorem lt_size {cur : Array Value} {i : Nat} {v : Value} (h : cur[i]? = some v) : i < cur.size := by
  rcases Nat.lt_or_ge i cur.size with h' | h'
  · exact h'
  · rw [Array.getElem?_eq_none h'] at h; cases h
theorem HasP.swap {cur : Array Value} {n : Nat} {f : Fn} (h : HasP cur n f) {i j : Nat} (hi : i < n) (hj : j < n) :
    HasP ((cur.setIfInBounds i (.int .i64 (f j))).setIfInBounds j (.int .i64 (f i))) n (swpF f i j) := by
  intro x hx
  have si := lt_size (h i hi)
  have sj := lt_size (h j hj)
  simp only [set_at, Array.size_setIfInBounds]
  unfold swpF
  by_cases h1 : x = i
  · subst h1
    by_cases h2 : j = x
    · subst h2; rw [if_pos rfl, if_pos sj, if_pos rfl]
    · rw [if_neg h2, if_pos rfl, if_pos si, if_pos rfl]
  · by_cases h2 : x = j
    · subst h2; rw [if_pos rfl, if_pos sj, if_neg h1, if_pos rfl]
    · rw [if_neg (fun e => h2 e.symm), if_neg (fun e => h1 e.symm), if_neg h1, if_neg h2]; exact h x hx

theorem Tame.Kept.setIn {g : Nat} {w0 W : World} (h : Kept [g] w0 W) (o : Nat) (v : Value) : Kept [g] w0 (W.setCell ⟨g, o, none⟩ v) := by
  refine ⟨?_, ?_, ?_, ?_, ?_⟩
  · exact h.os
  · exact h.tape
  · exact h.output
  · rw [World.size_setCell]; exact h.size
  · intro k hk hd
    have hne : k ≠ g := fun e => hd (by rw [e]; exact List.mem_singleton.2 rfl)
    rw [Below.heap_setCell _ _ _ _ hne]
    exact h.block k hk hd
theorem Tame.Kept.drew1 {g : Nat} {w0 W : World} (h : Kept [g] w0 W) : Kept [g] w0 W.drew := ⟨h.os, h.tape, h.output, h.size, h.block⟩
theorem Tame.Kept.below' {g : Nat} {w0 W : World} (h : Kept [g] w0 W) {W' : World} (hb : Below W.heap.size W W') : Kept [g] w0 W' := h.grow hb
theorem Tame.Kept.trans' {g : Nat} {a b c : World} (h : Kept [g] a b) (h2 : Kept [g] b c) : Kept [g] a c :=
  ⟨h2.os.trans h.os, h2.tape.trans h.tape, h2.output.trans h.output, Nat.le_trans h.size h2.size, fun k hk hd => (h2.block k (Nat.lt_of_lt_of_le hk h.size) hd).trans (h.block k hk hd)⟩

/-- Behind an exchange, as the walk leaves it. -/
theorem RowAt.swap {w0 : World} {g n : Nat} {f : Fn} {W : World} (h : RowAt w0 g n f W) {i j : Nat} (hi : i < n) (hj : j < n) :
    RowAt w0 g n (swpF f i j) (((W.setCell ⟨g, i, none⟩ (.int .i64 (f j))).setCell ⟨g, j, none⟩ (.int .i64 (f i))).drew) := by
  obtain ⟨cur, hg, hp⟩ := h.row
  exact ⟨((h.kept.setIn _ _).setIn _ _).drew1, _, set_block (set_block hg), hp.swap hi hj⟩
theorem RowAt.below {w0 : World} {g n : Nat} {f : Fn} {W W' : World} (h : RowAt w0 g n f W) (hb : Below W.heap.size W W') : RowAt w0 g n f W' := by
  obtain ⟨cur, hg, hp⟩ := h.row
  exact ⟨h.kept.grow hb, cur, keep2 hb hg, hp⟩
/-- Another block than g that was there in w0. -/
theorem RowAt.other {w0 : World} {g n : Nat} {f : Fn} {W : World} (h : RowAt w0 g n f W) {k : Nat} {o : Obj} (hk : w0.heap[k]? = some o) (hne : k ≠ g) : W.heap[k]? = some o :=
  (h.kept.block k (lt_of_some hk) (not_mem1 hne)).trans hk
theorem RowAt.rebase {w0 w1 : World} {g n : Nat} {f f' : Fn} {W : World} (h : RowAt w0 g n f w1) (h2 : RowAt w1 g n f' W) : RowAt w0 g n f' W := ⟨h.kept.trans' h2.kept, h2.row⟩
theorem RowAt.self {w0 w1 : World} {g n : Nat} {f : Fn} (h : RowAt w0 g n f w1) : RowAt w1 g n f w1 := ⟨Kept.refl _ _, h.row⟩

/-- What comes of exchanges within [a, b). -/
inductive Sw (a b : Nat) : Fn → Fn → Prop
  | refl (f : Fn) : Sw a b f f
  | step {f h : Fn} {i j : Nat} : a ≤ i → i < b → a ≤ j → j < b → Sw a b f h → Sw a b f (swpF h i j)
theorem Sw.trans {a b : Nat} {f h k : Fn} (h1 : Sw a b f h) (h2 : Sw a b h k) : Sw a b f k := by
  induction h2 with
  | refl => exact h1
  | step x1 x2 x3 x4 _ ih => exact .step x1 x2 x3 x4 ih
theorem Sw.mono {a b a' b' : Nat} {f h : Fn} (h1 : Sw a b f h) (ha : a' ≤ a) (hb : b ≤ b') : Sw a' b' f h := by
  induction h1 with
  | refl => exact .refl _
  | step x1 x2 x3 x4 _ ih => exact .step (by omega) (by omega) (by omega) (by omega) ih
theorem Sw.out {a b : Nat} {f h : Fn} (h1 : Sw a b f h) (x : Nat) (hx : x < a ∨ b ≤ x) : h x = f x := by
  induction h1 with
  | refl => rfl
  | step x1 x2 x3 x4 _ ih =>
    unfold swpF
    rw [if_neg (by omega), if_neg (by omega), ih]
/-- Every point behind the exchanges was there within [a, b). -/
theorem Sw.from {a b : Nat} {f h : Fn} (h1 : Sw a b f h) (x : Nat) (hx : a ≤ x ∧ x < b) : ∃ y, a ≤ y ∧ y < b ∧ h x = f y := by
  induction h1 generalizing x with
  | refl => exact ⟨x, hx.1, hx.2, rfl⟩
  | step x1 x2 x3 x4 _ ih =>
    unfold swpF
    split
    · exact ih _ ⟨x3, x4⟩
    · split
      · exact ih _ ⟨x1, x2⟩
      · exact ih x hx
theorem range_swap (i j n : Nat) (hi : i < n) (hj : j < n) : ((List.range n).map (fun x => if x = i then j else if x = j then i else x)).Perm (List.range n) := by
  apply (List.perm_ext_iff_of_nodup ?_ List.nodup_range).2
  · intro a
    simp only [List.mem_map, List.mem_range]
    constructor
    · rintro ⟨x, hx, rfl⟩
      split
      · exact hj
      · split <;> omega
    · intro ha
      by_cases h1 : a = i
      · subst h1
        by_cases h2 : j = a
        · subst h2; exact ⟨j, hj, by simp⟩
        · exact ⟨j, hj, by simp [h2]⟩
      · by_cases h2 : a = j
        · subst h2; exact ⟨i, hi, by simp⟩
        · exact ⟨a, ha, by simp [h1, h2]⟩
  · unfold List.Nodup
    rw [List.pairwise_map]
    refine List.Pairwise.imp ?_ List.nodup_range
    intro a b hab
    split <;> split <;> (try split) <;> (try split) <;> omega
theorem swpF_perm (f : Fn) (n i j : Nat) (hi : i < n) (hj : j < n) : ((List.range n).map (swpF f i j)).Perm ((List.range n).map f) := by
  have e : (List.range n).map (swpF f i j) = ((List.range n).map (fun x => if x = i then j else if x = j then i else x)).map f := by
    rw [List.map_map]
    apply List.map_congr_left
    intro x _
    show swpF f i j x = f (if x = i then j else if x = j then i else x)
    unfold swpF
    by_cases h1 : x = i
    · rw [if_pos h1, if_pos h1]
    · rw [if_neg h1, if_neg h1]
      by_cases h2 : x = j
      · rw [if_pos h2, if_pos h2]
      · rw [if_neg h2, if_neg h2]
  rw [e]
  exact (range_swap i j n hi hj).map f
theorem Sw.perm {a b : Nat} {f h : Fn} (h1 : Sw a b f h) (n : Nat) (hb : b ≤ n) : ((List.range n).map h).Perm ((List.range n).map f) := by
  induction h1 with
  | refl => exact List.Perm.refl _
  | step x1 x2 x3 x4 _ ih => exact (swpF_perm _ n _ _ (by omega) (by omega)).trans ih
end Go.Proofs.Ytgmlaimlcccmhaa
