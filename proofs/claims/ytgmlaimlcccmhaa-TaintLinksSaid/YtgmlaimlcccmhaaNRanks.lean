/-
  WHICH RANKS THERE MAY BE: the program's walk and the document's. CONDITIONS: stated.
-/
import Derived.Test.YtgmlaimlcccmhaaNBase
import Derived.Lib.Hide
import Derived.BigQuiet
import Derived.OwnWalk
namespace Go.Proofs.Ytgmlaimlcccmhaa
open Go.RowKit Go.Proofs.Ytgmlaimlcccmhaa.Tame
set_option maxHeartbeats 400000

theorem below_drewN {B : Nat} {a w : World} (h : Below B a w) (n : Nat) : Below B a (w.drewN n) := h.trans ⟨rfl, rfl, rfl, Nat.le_refl _, fun _ _ => rfl⟩
theorem ret_bool {a b : Bool} (h : a = b) : Ending.returned (.bool a) = .returned (.bool b) := by rw [h]
theorem info4 : (Try.prog.info? 4).map (fun i => (i.zero, i.size, i.bytes)) = some (some (.bool false), 1, 1) := by kernel_rfl
/-- Block u holds the flags U. -/
def FlagsAt (w : World) (u n : Nat) (U : Fl) : Prop := ∃ cu, w.heap[u]? = some (.cells cu 4 (0, 0)) ∧ ∀ m, m < n → cu[m]? = some (.bool (U m))
theorem flags_made {w : World} {u n : Nat} {base : Nat} (h : w.ownsRow base 4 1 (.slice (some ⟨u, 0, none⟩) n n) n (madeCells (Value.bool false).cells (n * 1)).toList) : FlagsAt w u n (fun _ => false) := by
  rcases h.2 with ⟨h1, _⟩ | ⟨g', cap', cur, h1, h2, h3, h4, h5, h6, h7⟩
  · simp at h1
  · simp only [Value.slice.injEq, Option.some.injEq] at h1
    obtain ⟨h1, _, rfl⟩ := h1
    obtain rfl : u = g' := by simpa using congrArg Addr.block h1
    refine ⟨cur, h3, fun m hm => ?_⟩
    have e : cur[m]? = (madeCells (Value.bool false).cells (n * 1)).toList[m]? := by
      rw [← h7, List.getElem?_take, if_pos (by omega)]; simp
    rw [e]
    have e1 : m % 1 = 0 := Nat.mod_one m
    simp [madeCells, Value.cells, hm, e1]
theorem FlagsAt.below {w w' : World} {u n : Nat} {U : Fl} (h : FlagsAt w u n U) (hb : Below w.heap.size w w') : FlagsAt w' u n U := by
  obtain ⟨cu, h1, h2⟩ := h
  exact ⟨cu, keep2 hb h1, h2⟩
def setFl (U : Fl) (k : Nat) (v : Bool) : Fl := fun m => if m = k then v else U m
theorem FlagsAt.set {w : World} {u n m0 : Nat} {U : Fl} (h : FlagsAt w u n U) (hm : m0 < n) (v : Bool) : FlagsAt (w.setCell ⟨u, m0, none⟩ (.bool v)) u n (setFl U m0 v) := by
  obtain ⟨cu, h1, h2⟩ := h
  refine ⟨_, set_block h1, fun m hm' => ?_⟩
  unfold setFl
  rw [set_at]
  by_cases e : m0 = m
  · subst e
    rw [if_pos rfl, if_pos (lt_size (h2 m0 hm)), if_pos rfl]
  · rw [if_neg e, h2 m hm', if_neg (fun e2 : m = m0 => e e2.symm)]

def RkOK (n : Nat) (rk : Fn) (i : Nat) : Prop := 0 ≤ rk i ∧ rk i < (n : Int) ∧ ∀ j, j < i → rk j ≠ rk i
def RanksOK (n : Nat) (rk : Fn) : Prop := ∀ i, i < n → RkOK n rk i
def MetU (i : Nat) (rk : Fn) (U : Fl) : Prop := ∀ k : Nat, U k = true ↔ ∃ j, j < i ∧ rk j = (k : Int)
theorem MetU.start (rk : Fn) : MetU 0 rk (fun _ => false) := fun _ => ⟨(fun h => by cases h), fun ⟨_, h, _⟩ => absurd h (Nat.not_lt_zero _)⟩
theorem MetU.next {i k : Nat} {rk : Fn} {U : Fl} (h : MetU i rk U) (e : rk i = (k : Int)) : MetU (i + 1) rk (setFl U k true) := fun x => by
  unfold setFl
  by_cases hx : x = k
  · subst hx
    rw [if_pos rfl]
    exact ⟨fun _ => ⟨i, by omega, e⟩, fun _ => rfl⟩
  · rw [if_neg hx, h x]
    constructor
    · rintro ⟨j, hj, he⟩; exact ⟨j, by omega, he⟩
    · rintro ⟨j, hj, he⟩
      by_cases hji : j = i
      · subst hji; rw [e] at he; omega
      · exact ⟨j, by omega, he⟩

theorem ranks_any (p : Option Addr) (n cap : Nat) (rk : Fn) (w : World) (hn : n ≤ 40) (hr : IntsAt w p n rk) :
    Calls Try.prog 17 #[.slice p n cap] w fun e w' => e = .returned (.bool (bOf (RanksOK n rk))) ∧ Below w.heap.size w w' := by
  obtain ⟨i0, hi0, hz0', hz1', hz2'⟩ := info_parts info4
  have HR := Lib.hid hr
  clear hr
  generalize hv : bOf (RanksOK n rk) = v
  have HV := Lib.hid hv
  clear hv
  go_enter Try.func17, Try.ntmps17
  go_wp2_with (at_make; refine wpList_make_full _ rfl _ _ 26 rfl w.heap.size 4 i0 (.bool false) 1 Try.underlying26 hi0 hz0' hz1' .i64 .i64 n n n rfl rfl rfl rfl (by rw [hz2']; omega) (by unfold maxLen; omega) (Nat.le_refl _) ?_; intro w3 hown3 hgrow)
  obtain ⟨u, hu⟩ : ∃ u, u = w.heap.size := ⟨_, rfl⟩
  rw [← hu] at hown3 ⊢
  have hb3 : Below w.heap.size w w3 := (Below.refl w.heap.size w).grown hgrow (Nat.le_refl _) (fun k hk => by cases hk)
  have HF := Lib.hid (flags_made hown3)
  have hus : w.heap.size ≤ u := by omega
  clear hown3 hgrow hu
  go_loopw [11] (fun s11 wr => ∃ (i : Nat) (U : Fl), s11 = .int .i64 i ∧ i ≤ n ∧ Below w.heap.size w wr ∧ FlagsAt wr u n U ∧ Hid (MetU i rk U) ∧ Hid (∀ j, j < i → RkOK n rk j)) (fun s11 _ => n - (intOf s11).toNat)
  case atStart => exact ⟨0, _, rfl, by omega, hb3, HF.out, Lib.hid (MetU.start rk), Lib.hid (fun j hj => by omega)⟩
  case round =>
    clear hb3 HF
    obtain ⟨i, U, rfl, hi, hb, hfl, hmet, hok⟩ := hrel
    by_cases hlt : i < n
    · obtain ⟨b, off, rfl, hc⟩ := HR.out.below hb (by omega)
      have c0 := hc i hlt
      clear hc
      generalize hrk : rk i = r at c0
      have HK := Lib.hid hrk
      clear hrk
      by_cases h1 : 0 ≤ r
      · by_cases h2 : r < (n : Int)
        · obtain ⟨k, rfl⟩ : ∃ k : Nat, r = k := ⟨r.toNat, by omega⟩
          have HFL := Lib.hid hfl
          obtain ⟨cu, hcu, hcv⟩ := hfl
          have c1 : wr.cell? ⟨u, k, none⟩ = some (.bool (U k)) := cell_of_block hcu (hcv k (by omega))
          have f1 : wr.frozen? ⟨u, k, none⟩ = false := free_of_block hcu
          clear hcv
          cases hU : U k
          · rw [hU] at c1
            have HU := Lib.hid hU
            clear hU
            have hset := Lib.hid (HFL.out.set (m0 := k) (by omega) true)
            have HOK := Lib.hid (fun j (hj : j < i + 1) => show RkOK n rk j by
              by_cases e : j = i
              · subst e
                refine ⟨by rw [HK.out]; omega, by rw [HK.out]; omega, fun j2 hj2 he => ?_⟩
                have := (hmet.out k).2 ⟨j2, hj2, by rw [he, HK.out]⟩
                rw [HU.out] at this; cases this
              · exact hok.out j (by omega))
            clear hcu
            go_wp2
            go_roundw
            case rel => exact ⟨i + 1, _, by go_num, hlt, hb.setCell hus _, hset.out, Lib.hid (hmet.out.next HK.out), HOK⟩
            case measure => simp [intOf]; omega
          · rw [hU] at c1
            obtain ⟨j2, hj2, he⟩ := (hmet.out k).1 hU
            have hbad : ¬ RanksOK n rk := fun h => (h i hlt).2.2 j2 hj2 (by rw [he, HK.out])
            have HV2 := Lib.hid (show false = v by rw [← HV.out, bOf_no hbad])
            clear hU hcu he hbad
            go_wp2
            go_ret
            exact ⟨ret_bool HV2.out, hb⟩
        · have HV2 := Lib.hid (show false = v by rw [← HV.out, bOf_no (fun h => by have := (h i hlt).2.1; rw [HK.out] at this; exact h2 this)])
          clear hfl
          go_wp2
          go_ret
          exact ⟨ret_bool HV2.out, hb⟩
      · have HV2 := Lib.hid (show false = v by rw [← HV.out, bOf_no (fun h => by have := (h i hlt).1; rw [HK.out] at this; exact h1 this)])
        clear hfl
        go_wp2
        go_ret
        exact ⟨ret_bool HV2.out, hb⟩
    · obtain rfl : i = n := by omega
      have HV2 := Lib.hid (show true = v by rw [← HV.out, bOf_yes (show RanksOK i rk from hok.out)])
      clear hfl
      go_wp2
      go_ret
      exact ⟨ret_bool HV2.out, hb⟩

theorem refranks_any (p : Option Addr) (n cap : Nat) (rk : Fn) (w : World) (hn : n ≤ 40) (hr : IntsAt w p n rk) :
    Calls Try.prog 15 #[.slice p n cap] w fun e w' => e = .returned (.bool (bOf (RanksOK n rk))) ∧ Below w.heap.size w w' := by
  have HR := Lib.hid hr
  clear hr
  generalize hv : bOf (RanksOK n rk) = v
  have HV := Lib.hid hv
  clear hv
  go_enter Try.func15, Try.ntmps15
  go_wp2
  go_loopw [3] (fun s3 wr => ∃ i : Nat, s3 = .int .i64 i ∧ i ≤ n ∧ Below w.heap.size w wr ∧ Hid (∀ j, j < i → RkOK n rk j)) (fun s3 _ => n - (intOf s3).toNat)
  case atStart => exact ⟨0, rfl, by omega, Below.refl _ _, Lib.hid (fun j hj => by omega)⟩
  case round =>
    obtain ⟨i, rfl, hi, hb, hok⟩ := hrel
    by_cases hlt : i < n
    · obtain ⟨b, off, rfl, hc⟩ := HR.out.below hb (by omega)
      have c0 := hc i hlt
      clear hc
      generalize hrk : rk i = r at c0
      have HK := Lib.hid hrk
      clear hrk
      by_cases h1 : 0 ≤ r
      · by_cases h2 : r < (n : Int)
        · obtain ⟨wo, rfl⟩ : ∃ wo : World, wo = wr := ⟨_, rfl⟩
          go_wp2
          clear c0
          go_loopw [4] (fun s4 wx => ∃ j : Nat, s4 = .int .i64 j ∧ j ≤ i ∧ Below w.heap.size w wx ∧ Hid (∀ j2, j2 < j → rk j2 ≠ rk i)) (fun s4 _ => i - (intOf s4).toNat)
          case atStart => exact ⟨0, rfl, by omega, hb, Lib.hid (fun j2 hj => by omega)⟩
          case round =>
            clear hb
            obtain ⟨j, rfl, hj, hb, hne⟩ := hrel
            by_cases hji : j < i
            · obtain ⟨b', off', he', hc⟩ := HR.out.below hb (by omega)
              simp only [Option.some.injEq, Addr.mk.injEq, and_true] at he'
              obtain ⟨rfl, rfl⟩ := he'
              have c0 := hc i hlt
              have c1 := hc j (by omega)
              rw [HK.out] at c0
              clear hc
              generalize hrj : rk j = q at c1
              have HJ := Lib.hid hrj
              clear hrj
              have z1 : (j : Int) < (n : Int) := by omega
              have z2 : (i : Int) < (n : Int) := by omega
              by_cases he : q = r
              · have HV2 := Lib.hid (show false = v by rw [← HV.out, bOf_no (fun h => (h i hlt).2.2 j hji (by rw [HJ.out, HK.out, he]))])
                subst he
                go_wp2_with fail
                go_quiet (fail)
                go_wp2
                go_ret
                exact ⟨ret_bool HV2.out, below_drewN hb _⟩
              · have hne' : (q == r) = false := beq_eq_false_iff_ne.2 he
                have HN := Lib.hid (fun j2 (h : j2 < j + 1) => show rk j2 ≠ rk i by
                  by_cases e : j2 = j
                  · subst e; rw [HJ.out, HK.out]; exact he
                  · exact hne.out j2 (by omega))
                go_wp2_with fail
                go_quiet (fail)
                go_wp2
                go_roundw
                case rel => exact ⟨j + 1, by go_num, hji, below_drewN hb _, HN⟩
                case measure => simp [intOf]; omega
            · obtain rfl : j = i := by omega
              have HOK := Lib.hid (fun j2 (h : j2 < j + 1) => show RkOK n rk j2 by
                by_cases e : j2 = j
                · subst e
                  exact ⟨by rw [HK.out]; exact h1, by rw [HK.out]; exact h2, hne.out⟩
                · exact hok.out j2 (by omega))
              go_wp2
              go_roundw
              case rel => exact ⟨j + 1, by go_num, hlt, hb, HOK⟩
              case measure => simp [intOf]; omega
        · have HV2 := Lib.hid (show false = v by rw [← HV.out, bOf_no (fun h => by have := (h i hlt).2.1; rw [HK.out] at this; exact h2 this)])
          go_wp2
          go_ret
          exact ⟨ret_bool HV2.out, hb⟩
      · have HV2 := Lib.hid (show false = v by rw [← HV.out, bOf_no (fun h => by have := (h i hlt).1; rw [HK.out] at this; exact h1 this)])
        go_wp2
        go_ret
        exact ⟨ret_bool HV2.out, hb⟩
    · obtain rfl : i = n := by omega
      have HV2 := Lib.hid (show true = v by rw [← HV.out, bOf_yes (show RanksOK i rk from hok.out)])
      go_wp2
      go_ret
      exact ⟨ret_bool HV2.out, hb⟩
end Go.Proofs.Ytgmlaimlcccmhaa
