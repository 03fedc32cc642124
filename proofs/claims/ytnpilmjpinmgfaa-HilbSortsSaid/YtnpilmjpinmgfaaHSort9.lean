/-
  WALKS OF ContainsFunc AND Clone AT SQUARES. CONDITIONS: stated.
-/
import Derived.Test.YtnpilmjpinmgfaaHSort8
import Derived.OwnWalk
import Derived.WalkSpells
import Derived.Lib.BufferMore
import Derived.Deep.AppendLies
namespace Go.Proofs.Ytnpilmjpinmgfaa
open Go.RowKit Go.Proofs.Ytnpilmjpinmgfaa.Tame
set_option maxHeartbeats 400000

theorem indexfunc_zero (b : Option Addr) (c : Nat) (cb : Value) (w : World) :
    Calls Try.prog 41 #[.slice b 0 c, cb] w fun e w' => e = .returned (.int .i64 (-1)) ∧ w = w' := by
  go_enter Try.func41, Try.ntmps41
  go_wp2
  go_loop [8] (fun s8 => s8 = .int .i64 0) (fun _ => 0)
  case atStart => rfl
  case round =>
    subst hrel
    go_wp2
    go_ret
    exact ⟨rfl, rfl⟩
theorem contains_zero (b : Option Addr) (c : Nat) (cb : Value) (w : World) :
    Calls Try.prog 35 #[.slice b 0 c, cb] w fun e w' => e = .returned (.bool false) ∧ w = w' := by
  go_enter Try.func35, Try.ntmps35
  go_wp2_with fail
  refine (indexfunc_zero b c cb _).mono ?_
  rintro e w1 ⟨rfl, rfl⟩
  go_wp2_with fail
  go_ret
  exact ⟨rfl, rfl⟩
theorem contains_all (k : Int) (b off n cap kb : Nat) (f : Fn) (w : World) (hn : n ≤ 1000000) (hp : PtsAt w b off n f) (hkb : w.heap[kb]? = some (.cells #[.int .i64 k] 3)) (hin : ∀ i, i < n → insB k (f i).1 (f i).2 = true) :
    Calls Try.prog 35 #[.slice (some ⟨b, off, none⟩) n cap, .func (.func 36) #[] #[.pointer (some ⟨kb, 0, none⟩)]] w fun e w' => e = .returned (.bool false) ∧ Below w.heap.size w w' := by
  have H1 := Lib.hid (indexfunc_all k b off n cap kb f w hn hp hkb hin)
  clear hp hkb hin
  go_enter Try.func35, Try.ntmps35
  go_wp2_with fail
  refine (H1.out).mono ?_
  rintro e w1 ⟨rfl, hb1⟩
  go_wp2_with fail
  go_ret
  exact ⟨rfl, hb1⟩
theorem contains_some (k : Int) (b off n cap kb j : Nat) (f : Fn) (w : World) (hn : n ≤ 1000000) (hj : j < n) (hp : PtsAt w b off n f) (hkb : w.heap[kb]? = some (.cells #[.int .i64 k] 3)) (hbad : insB k (f j).1 (f j).2 = false) :
    Calls Try.prog 35 #[.slice (some ⟨b, off, none⟩) n cap, .func (.func 36) #[] #[.pointer (some ⟨kb, 0, none⟩)]] w fun e w' => e = .returned (.bool true) ∧ Below w.heap.size w w' := by
  have H1 := Lib.hid (indexfunc_some k b off n cap kb j f w hn hj hp hkb hbad)
  clear hp hkb hbad
  go_enter Try.func35, Try.ntmps35
  go_wp2_with fail
  refine (H1.out).mono ?_
  rintro e w1 ⟨⟨r, rfl⟩, hb1⟩
  have hr : (0 : Int) ≤ (r : Int) := Int.natCast_nonneg _
  go_wp2_with fail
  go_ret
  exact ⟨rfl, hb1⟩

theorem info23 : (Try.prog.info? 23).map (fun i => (i.zero, i.size, i.bytes)) = some (some (.agg #[.int .i64 0, .int .i64 0]), 2, 16) := by kernel_rfl
/-- The cells of points. -/
def flatF (f : Fn) : Nat → List Value
  | 0 => []
  | n + 1 => flatF f n ++ [.int .i64 (f n).1, .int .i64 (f n).2]
theorem flatF_len (f : Fn) (n : Nat) : (flatF f n).length = n * 2 := by
  induction n with
  | zero => rfl
  | succ n ih => unfold flatF; rw [List.length_append, ih]; simp; omega
theorem flatF_at (f : Fn) (n i : Nat) (h : i < n) : (flatF f n)[i * 2]? = some (.int .i64 (f i).1) ∧ (flatF f n)[i * 2 + 1]? = some (.int .i64 (f i).2) := by
  induction n with
  | zero => omega
  | succ n ih =>
    unfold flatF
    by_cases h1 : i < n
    · rw [List.getElem?_append_left (by rw [flatF_len]; omega), List.getElem?_append_left (by rw [flatF_len]; omega)]
      exact ih h1
    · obtain rfl : i = n := by omega
      rw [List.getElem?_append_right (by rw [flatF_len]; omega), List.getElem?_append_right (by rw [flatF_len]; omega), flatF_len]
      constructor
      · rw [Nat.sub_self]; rfl
      · rw [show i * 2 + 1 - i * 2 = 1 by omega]; rfl
theorem flatF_one (f : Fn) (n : Nat) : ∀ u ∈ flatF f n, u.oneCell' = true := by
  induction n with
  | zero => intro u h; simp [flatF] at h
  | succ n ih =>
    intro u h
    unfold flatF at h
    rw [List.mem_append] at h
    rcases h with h | h
    · exact ih u h
    · simp at h; rcases h with rfl | rfl <;> rfl
theorem PtsAt.flat {w : World} {b off n : Nat} {f : Fn} (h : PtsAt w b off n f) : ∀ j u, (flatF f n)[j]? = some u → w.cell? ((⟨b, off, none⟩ : Addr).add j) = some u := by
  intro j u hj
  have hl : j < n * 2 := by
    have := (List.getElem?_eq_some_iff.1 hj).1
    rwa [flatF_len] at this
  have hadd : (⟨b, off, none⟩ : Addr).add j = ⟨b, off + j, none⟩ := by unfold Addr.add; split <;> simp_all
  rw [hadd]
  obtain ⟨i, hi⟩ : ∃ i, j = i * 2 ∨ j = i * 2 + 1 := ⟨j / 2, by omega⟩
  rcases hi with rfl | rfl
  · rw [(flatF_at f n i (by omega)).1] at hj
    rw [(h i (by omega)).1]; exact hj
  · rw [(flatF_at f n i (by omega)).2] at hj
    have := (h i (by omega)).2
    rw [Nat.add_assoc] at this
    rw [this]; exact hj

/-- What Clone answers: the same points in a block of its own. -/
def ClonePost (w : World) (n : Nat) (f : Fn) (e : Ending) (w' : World) : Prop := ∃ g cap cur, e = .returned (.slice (some ⟨g, 0, none⟩) n cap) ∧ w.heap.size ≤ g ∧ w'.heap[g]? = some (.cells cur 23 (0, 0)) ∧ HasP cur n f ∧ Below w.heap.size w w'
theorem clone_any (b off n cap : Nat) (f : Fn) (w : World) (hn0 : 0 < n) (hn : n ≤ 1000000) (hp : PtsAt w b off n f) :
    Calls Try.prog 37 #[.slice (some ⟨b, off, none⟩) n cap] w (ClonePost w n f) := by
  obtain ⟨i0, hi0, hz0', hz1', hz2'⟩ := info_parts info23
  have HP := Lib.hid hp
  clear hp
  have hnil := fun w : World => Lib.run_eql_slice_some_nil (P := Try.prog) w (t := 58) ⟨b, off, none⟩ n cap Try.underlying58
  go_enter Try.func37, Try.ntmps37
  go_wp2_with (at_builtin; refine wpList_append_lies _ rfl _ _ 58 rfl w.heap.size 23 i0 _ 2 16 Try.underlying58 hi0 hz0' hz1' hz2' rfl (by decide) _ 0 [] rfl ?hown ⟨b, off, none⟩ n cap (flatF f n) rfl (flatF_len f n) ?hc (flatF_one f n) hn0 (by unfold maxLen; omega) (by omega) (by simp) _ rfl ?_; rotate_left; rotate_left; intro g c w3 hown3 hgrow hat hlt3)
  · have hbel : Below w.heap.size w w3 := ((Below.refl w.heap.size w).alloc (Nat.le_refl _) _).grown hgrow (by simp) (fun k hk => Nat.le_of_eq (Option.some.inj (show some w.heap.size = some k from hk)))
    have hform := hown3.form (by omega)
    rcases hown3.2 with ⟨h1, _⟩ | ⟨g', cap', cur, h1, h2, h3, h4, h5, h6, h7⟩
    · simp at h1
    · simp only [Value.slice.injEq, Option.some.injEq] at h1
      obtain ⟨h1, _, rfl⟩ := h1
      obtain rfl : g = g' := by simpa using congrArg Addr.block h1
      have hp : HasP cur n f := fun i hi => by
        have e : ∀ j, j < n * 2 → cur[j]? = (flatF f n)[j]? := fun j hj => by
          rw [Nat.zero_add, List.nil_append] at h7
          rw [← h7, List.getElem?_take, if_pos hj]; simp
        rw [e _ (by omega), e _ (by omega)]
        exact flatF_at f n i hi
      have H2 := Lib.hid h2
      have H3 := Lib.hid h3
      have HPc := Lib.hid hp
      clear hform h1 h2 h3 h4 h5 h6 h7 hp hown3 hgrow hat hlt3 hnil
      go_ret
      exact ⟨g, _, cur, rfl, H2.out, H3.out, HPc.out, hbel⟩
  · exact ⟨rfl, .inr ⟨w.heap.size, 0, #[], rfl, Nat.le_refl _, heap_alloc_is rfl, Nat.le_refl _, by decide, rfl, rfl⟩⟩
  · exact (HP.out.below ((Below.refl w.heap.size w).alloc (Nat.le_refl _) _)).flat
end Go.Proofs.Ytnpilmjpinmgfaa
