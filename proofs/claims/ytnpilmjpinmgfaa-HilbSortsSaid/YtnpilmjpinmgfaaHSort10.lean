/-
  THE WALK OF hilb.Sort. CONDITIONS: stated.
-/
import Derived.Test.YtnpilmjpinmgfaaHSort9
namespace Go.Proofs.Ytnpilmjpinmgfaa
open Go.RowKit Go.Proofs.Ytnpilmjpinmgfaa.Tame
set_option maxHeartbeats 400000

theorem hsort_no (k : Int) (b off n cap j : Nat) (f : Fn) (w : World) (hn : n ≤ 1000000) (hj : j < n) (hp : PtsAt w b off n f) (hbad : insB k (f j).1 (f j).2 = false) :
    Calls Try.prog 27 #[.int .i64 k, .slice (some ⟨b, off, none⟩) n cap] w fun e w' => e = .returned (.tuple #[.slice none 0 0, .int .i64 1]) ∧ Below w.heap.size w w' := by
  have hb0 : Below w.heap.size w (w.alloc (.cells #[.int .i64 k] 3)) := (Below.refl w.heap.size w).alloc (Nat.le_refl _) _
  have H1 := Lib.hid (contains_some k b off n cap w.heap.size j f (w.alloc (.cells #[.int .i64 k] 3)) hn hj (hp.below hb0) (heap_alloc_is rfl) hbad)
  clear hp hbad
  go_enter Try.func27, Try.ntmps27
  go_wp2_with fail
  refine (H1.out).mono ?_
  rintro e w1 ⟨rfl, hb1⟩
  go_wp2_with fail
  go_ret2
  exact ⟨rfl, hb0.trans (hb1.mono (by simp))⟩

/-- What Sort answers. -/
def SortedPost (k : Nat) (w : World) (n : Nat) (f : Fn) (e : Ending) (w' : World) : Prop := ∃ g cap cur h, e = .returned (.tuple #[.slice (some ⟨g, 0, none⟩) n cap, .int .i64 0]) ∧ w.heap.size ≤ g ∧ w'.heap[g]? = some (.cells cur 23 (0, 0)) ∧ HasP cur n h ∧ Sw 0 n f h ∧ Asc k 0 n h ∧ Below w.heap.size w w'
theorem insB_in {k : Nat} {p : Int × Int} (h : insB k p.1 p.2 = true) : InP k p := by
  unfold insB insM at h
  rw [Int.toNat_natCast] at h
  simp only [Bool.and_eq_true, decide_eq_true_eq] at h
  exact ⟨h.1.1.1.2, h.1.2, h.1.1.2, h.2⟩
theorem hsort_yes (k : Nat) (b off n cap : Nat) (f : Fn) (w : World) (hk20 : k ≤ 20) (hn0 : 0 < n) (hn : n ≤ 1000000) (hp : PtsAt w b off n f) (hin : ∀ i, i < n → insB k (f i).1 (f i).2 = true) :
    Calls Try.prog 27 #[.int .i64 k, .slice (some ⟨b, off, none⟩) n cap] w (SortedPost k w n f) := by
  have hb0 : Below w.heap.size w (w.alloc (.cells #[.int .i64 k] 3)) := (Below.refl w.heap.size w).alloc (Nat.le_refl _) _
  have H1 := Lib.hid (contains_all k b off n cap w.heap.size f (w.alloc (.cells #[.int .i64 k] 3)) hn (hp.below hb0) (heap_alloc_is rfl) hin)
  have HP := Lib.hid hp
  have HIN := Lib.hid (show AllIn k n f from fun x hx => insB_in (hin x hx))
  clear hp hin
  go_enter Try.func27, Try.ntmps27
  go_wp2_with fail
  refine (H1.out).mono ?_
  rintro e w1 ⟨rfl, hb1⟩
  have hw1 := hb0.trans (hb1.mono (by simp))
  have hk1 : w1.heap[w.heap.size]? = some (.cells #[.int .i64 k] 3) := keep2 hb1 (heap_alloc_is rfl)
  have HK1 := Lib.hid hk1
  have hz1 := lt_of_some hk1
  clear hb1 hk1 H1
  go_wp2_with fail
  refine (clone_any b off n cap f _ hn0 hn (HP.out.below hw1)).mono ?_
  rintro e w2 ⟨g, cap', cur, rfl, hg, hgb, hcur, hb2⟩
  have HG := Lib.hid hgb
  have HC := Lib.hid hcur
  have hw2 := hw1.trans (hb2.mono hw1.size)
  have HK2 := Lib.hid (keep2 hb2 HK1.out)
  clear hgb hcur hb2 HK1
  go_wp2_with fail
  refine (sortstable_any k g n cap' w.heap.size f _ hk20 hn (by omega) ⟨Kept.refl _ _, cur, HG.out, HC.out⟩ HK2.out HIN.out).mono ?_
  rintro e w3 ⟨rfl, h, hr, hs, ha⟩
  obtain ⟨hkept, cur3, hg3, hc3⟩ := hr
  have hw3 := hw2.trans (hkept.below (B := w.heap.size) hw2.size (fun d hd => by rw [List.mem_singleton.1 hd]; omega))
  have H3 := Lib.hid hg3
  have H4 := Lib.hid hc3
  have H5 := Lib.hid hs
  have H6 := Lib.hid ha
  clear hkept hg3 hc3 hs ha
  go_wp2_with fail
  go_ret2
  exact ⟨g, cap', cur3, h, rfl, by omega, H3.out, H4.out, H5.out, H6.out, hw3⟩
end Go.Proofs.Ytnpilmjpinmgfaa
