/-
  THE PLACES OF LINKS BY THEIR ENDS: a map that the call makes (places). CONDITIONS: the links may be.
-/
import Derived.Test.YtgmlaimlcccmhaaNRefLink
import Derived.Maps.OwnOps
import Derived.Maps.OwnSet
import Derived.Maps.Views
import Derived.DeepKeys4
namespace Go.Proofs.Ytgmlaimlcccmhaa
open Go.RowKit Go.Proofs.Ytgmlaimlcccmhaa.Tame Go.Maps
set_option maxHeartbeats 400000

theorem kdeep : Try.prog.keyTypeAt (Try.prog.types.size + 1) 45 = true := by kernel_rfl
theorem kwide : (match Try.prog.underlying 45 with | some (.array _ _) | some (.struct _) => true | _ => false) = true := by rw [Try.underlying45]
theorem klaw : Keyed Try.prog 45 := Keyed.of_law (deep_law_laid (by kernel_rfl) (m := 2) (by omega) (of_decide_eq_true (by kernel_rfl)) (by kernel_rfl) kwide)
theorem kcells : Try.prog.cellsOf 45 = 2 := by kernel_rfl
theorem kcells3 : Try.prog.cellsOf 3 = 1 := by kernel_rfl
theorem ktype : Try.prog.keyType 45 = true := kdeep
def litK (x y : Int) : Lit := .string (keyBytes [.int .i64 x, .int .i64 y])
theorem keyOf_ends {x y : Int} (hx : (Lit.int .i64 x).wf = true) (hy : (Lit.int .i64 y).wf = true) : keyOf Try.prog 45 (.agg #[.int .i64 x, .int .i64 y]) = some (litK x y) := by
  obtain ⟨m, hm⟩ : ∃ m, Try.prog.types.size = m + 1 := by
    have h2 : decide (45 < Try.prog.types.size) = true := by kernel_rfl
    have := of_decide_eq_true h2
    exact ⟨Try.prog.types.size - 1, by omega⟩
  unfold keyOf
  simp only [Try.underlying45]
  rw [if_pos (by simp [ktype, Value.formed, Try.underlying45, kcells]), hm]
  unfold Program.keyLits
  simp only [Try.underlying45, Value.cells]
  rw [if_pos (by rw [kcells]; exact ⟨rfl, by simp⟩)]
  simp [kcells3, Program.keyLits, Try.underlying3, hx, hy, litK]
theorem litK_inj {x y x' y' : Int} (hx : (Lit.int .i64 x).wf = true) (hy : (Lit.int .i64 y).wf = true) (hx' : (Lit.int .i64 x').wf = true) (hy' : (Lit.int .i64 y').wf = true) (h : litK x y = litK x' y') : x = x' ∧ y = y' := by
  have := klaw.inj (keyOf_ends hx hy) (h ▸ keyOf_ends hx' hy')
  simp at this
  exact this
theorem wf64 {x : Int} (h : 0 ≤ x ∧ x < 1000000) : (Lit.int .i64 x).wf = true := WalkArith.wf_i64 (by omega)
def mapD (ls : Ls) : Nat → DataW Unit
  | 0 => .map []
  | n + 1 => (mapD ls n).put (litK (ls n).a (ls n).b) (.lit (.int .i64 n))
theorem mapD_isMap (ls : Ls) : ∀ n, IsMap (mapD ls n)
  | 0 => isMap_empty
  | n + 1 => (mapD_isMap ls n).put _ _
/-- The ends of the first n links are vertices. -/
def EndsOK (nl : Nat) (ls : Ls) : Prop := ∀ i, i < nl → (0 ≤ (ls i).a ∧ (ls i).a < 1000000) ∧ (0 ≤ (ls i).b ∧ (ls i).b < 1000000)
theorem SortOK.ends {nr nl : Nat} {ls : Ls} (hn : nr ≤ 1000000) (h : SortOK nr nl ls) : EndsOK nl ls := fun i hi => by
  have := h i hi
  unfold LkOK Vtx at this
  omega
theorem litK_ne {a b x y : Int} (h1 : 0 ≤ a ∧ a < 1000000) (h2 : 0 ≤ b ∧ b < 1000000) (h3 : 0 ≤ x ∧ x < 1000000) (h4 : 0 ≤ y ∧ y < 1000000) (h : ¬ (a = x ∧ b = y)) : litK x y ≠ litK a b := fun e => by
  have := litK_inj (wf64 h3) (wf64 h4) (wf64 h1) (wf64 h2) e
  exact h ⟨this.1.symm, this.2.symm⟩
/-- What the map holds at two ends: the place of the link with these ends, if there is one. -/
theorem mapD_spec {ls : Ls} {x y : Int} (hx : 0 ≤ x ∧ x < 1000000) (hy : 0 ≤ y ∧ y < 1000000) (z : DataW Unit) : ∀ {n : Nat}, EndsOK n ls → Rise n ls →
    ((lnkR ls x y n = -1 ∧ has (mapD ls n) (litK x y) = false ∧ (mapD ls n).atKey (litK x y) z = z) ∨ ∃ k : Nat, k < n ∧ IsL (ls k) x y ∧ lnkR ls x y n = k ∧ has (mapD ls n) (litK x y) = true ∧ (mapD ls n).atKey (litK x y) z = .lit (.int .i64 k))
  | 0, _, _ => .inl ⟨rfl, rfl, atKey_of_not_has rfl z⟩
  | n + 1, h, hr => by
    obtain ⟨h1, h2⟩ := h n (by omega)
    have ih := mapD_spec hx hy z (n := n) (fun i hi => h i (by omega)) (fun i j hi hj => hr i j hi (by omega))
    unfold mapD
    by_cases he : (ls n).a = x ∧ (ls n).b = y
    · right
      refine ⟨n, by omega, he, ?_, ?_, ?_⟩
      · exact lnkR_at hr (by omega) he
      · rw [he.1, he.2]; exact has_put_same (mapD_isMap ls n) (show WideAt.IsKeyLit (litK x y) from trivial) _
      · rw [he.1, he.2]; exact atKey_put_same (mapD_isMap ls n) (show WideAt.IsKeyLit (litK x y) from trivial) _ _
    · have hne := litK_ne h1 h2 hx hy he
      rcases ih with ⟨i1, i2, i3⟩ | ⟨k, hk, i1, i2, i3, i4⟩
      · left
        refine ⟨?_, ?_, ?_⟩
        · unfold lnkR; rw [if_pos i1, if_neg he]
        · rw [has_put_other hne]; exact i2
        · rw [atKey_put_other hne]; exact i3
      · right
        refine ⟨k, by omega, i1, ?_, ?_, ?_⟩
        · unfold lnkR; rw [if_neg (by omega), i2]
        · rw [has_put_other hne]; exact i3
        · rw [atKey_put_other hne]; exact i4
/-- A block is the map of the links' places. -/
def MapAt (w : World) (b n : Nat) (ls : Ls) : Prop := w.ownsMap Try.prog 45 (plainElem Try.prog 3) b n (mapD ls n)
theorem MapAt.below {w w' : World} {b n : Nat} {ls : Ls} (h : MapAt w b n ls) (hb : Below w.heap.size w w') : MapAt w' b n ls := World.ownsMap.kept (row := none) h ⟨hb.os, hb.tape, hb.output, hb.size, fun i hi _ => hb.block i hi⟩ (by simp)
theorem MapAt.but {w w' : World} {b n u : Nat} {ls : Ls} (h : MapAt w b n ls) (hk : Kept [u] w w') (hne : b ≠ u) : MapAt w' b n ls := World.ownsMap.kept (row := some u) h ⟨hk.os, hk.tape, hk.output, hk.size, fun i hi hj => hk.block i hi (not_mem1 (fun e => hj (by rw [e])))⟩ (by simpa using hne)
theorem zero3 (w : World) : (zeroValue 3).run Try.prog w = .ok (.int .i64 0) w := by kernel_rfl
def PlacesPost (w : World) (nl : Nat) (ls : Ls) (e : Ending) (w' : World) : Prop := ∃ b, e = .returned (.map (some b)) ∧ w.heap.size ≤ b ∧ Below w.heap.size w w' ∧ MapAt w' b nl ls
set_option maxRecDepth 100000 in
theorem places_any (pr : Option Addr) (nr cr : Nat) (pl : Option Addr) (nl cl : Nat) (ls : Ls) (w : World) (hnl : nl ≤ 400) (hl : LinksAt w pl nl ls) (he : EndsOK nl ls) :
    Calls Try.prog 13 #[HV pr nr cr pl nl cl] w (PlacesPost w nl ls) := by
  have HL := Lib.hid hl
  have HE := Lib.hid he
  clear hl he
  have hmm := @run_makeMap Try.prog
  go_enter Try.func13, Try.ntmps13
  go_wp2_with fail
  clear hmm
  go_loopw [10] (fun s10 wr => ∃ i : Nat, s10 = .int .i64 i ∧ i ≤ nl ∧ Below w.heap.size w wr ∧ Hid (wr.ownsMap Try.prog 45 (plainElem Try.prog 3) (w.heap.size + 1) i (mapD ls i))) (fun s10 _ => nl - (intOf s10).toNat)
  case atStart => exact ⟨0, rfl, by omega, by go_grown, Lib.hid (by have := World.ownsMap_made (H := Unit) (w.alloc (.cells #[.slice pr nr cr, .slice pl nl cl] 25)) Try.prog 45 (plainElem Try.prog 3); rw [show (w.alloc (.cells #[.slice pr nr cr, .slice pl nl cl] 25)).heap.size = w.heap.size + 1 by simp] at this; exact this)⟩
  case round =>
    obtain ⟨i, rfl, hi, hb, hown⟩ := hrel
    by_cases hlt : i < nl
    · obtain ⟨b, off, rfl, hc⟩ := HL.out.below hb (by omega)
      have hci := hc i hlt
      have hei := HE.out i hlt
      clear hc
      have HD := Lib.hid (show mapD ls (i + 1) = (mapD ls i).put (litK (ls i).a (ls i).b) (.lit (.int .i64 i)) from rfl)
      generalize ls i = A at hci hei HD
      obtain ⟨c0, c1, c2, c3⟩ := hci
      have hbl := World.block_lt_of_cell? wr _ c0
      simp only at hbl
      have W1 := Lib.hid (wf64 hei.1)
      have W2 := Lib.hid (wf64 hei.2)
      have W3 := Lib.hid (wf64 (x := (i : Int)) (by omega))
      have hmb : w.heap.size + 1 < wr.heap.size := hown.out.lt
      clear hei
      go_wp2_with (at_mapUpdate; refine wpList_mapUpdate_own _ rfl _ _ _ 41 rfl 45 3 klaw Try.underlying41 _ (w.heap.size + 1) i _ rfl (hown.out.alloc _) (by unfold maxLen; omega) _ _ _ rfl rfl (keyOf_ends W1.out W2.out) _ [] (plainElem_int Try.underlying3 W3.out) ?_; intro w1 hown1 hgrow1)
      have hb1 : Below w.heap.size w w1 := (hb.alloc hb.size _).grown hgrow1 (by simp; omega) (fun k hk => by cases hk; omega)
      rw [← HD.out] at hown1
      have HO := Lib.hid hown1
      clear hown1 hgrow1 c0 c1 c2 c3
      go_wp2_with fail
      go_roundw
      case rel => exact ⟨i + 1, by go_num, hlt, hb1, HO⟩
      case measure => simp [intOf]; omega
    · obtain rfl : i = nl := by omega
      go_wp2_with fail
      go_ret
      exact ⟨w.heap.size + 1, rfl, by omega, hb, hown.out⟩
/-- A look-up in that map. -/
theorem MapAt.look {w : World} {b n : Nat} {ls : Ls} (h : MapAt w b n ls) (he : EndsOK n ls) (hr : Rise n ls) {x y : Int} (hx : 0 ≤ x ∧ x < 1000000) (hy : 0 ≤ y ∧ y < 1000000) {k : Nat} (hk : k < n) (hl : IsL (ls k) x y) :
    (Instr.lookup 41 (.map (some b)) (.agg #[.int .i64 x, .int .i64 y]) false).run Try.prog w = .ok (.int .i64 k) w := by
  obtain ⟨c, hrun, hat, _⟩ := World.ownsMap.lookup_int h klaw Try.underlying41 Try.underlying3 (zero3 w) (keyOf_ends (wf64 hx) (wf64 hy))
  rcases mapD_spec hx hy (.lit (.int .i64 0)) he hr with ⟨h1, _⟩ | ⟨k', hk', h1, _, _, h4⟩
  · rcases lnkR_cases ls x y n with ⟨_, h2⟩ | ⟨k', _, h2, _⟩
    · exact absurd hl (h2 k hk)
    · omega
  · have e := hr.one hk' hk h1 hl
    subst e
    rw [h4] at hat
    simp at hat
    rw [hrun, ← hat]
theorem MapAt.look_ok {w : World} {b n : Nat} {ls : Ls} (h : MapAt w b n ls) (he : EndsOK n ls) (hr : Rise n ls) {x y : Int} (hx : 0 ≤ x ∧ x < 1000000) (hy : 0 ≤ y ∧ y < 1000000) :
    (lnkR ls x y n = -1 ∧ ∃ c : Int, (Instr.lookup 41 (.map (some b)) (.agg #[.int .i64 x, .int .i64 y]) true).run Try.prog w = .ok (.tuple #[.int .i64 c, .bool false]) w) ∨
    ∃ k : Nat, k < n ∧ IsL (ls k) x y ∧ lnkR ls x y n = k ∧ (Instr.lookup 41 (.map (some b)) (.agg #[.int .i64 x, .int .i64 y]) true).run Try.prog w = .ok (.tuple #[.int .i64 k, .bool true]) w := by
  obtain ⟨v, ps, hrun, hv⟩ := World.ownsMap.look_ok h klaw Try.underlying41 (zero3 w) (plainElem_int Try.underlying3 (by decide)) (keyOf_ends (wf64 hx) (wf64 hy))
  obtain ⟨c, rfl, hc, _⟩ := plainElem_int_inv Try.underlying3 hv
  simp only [Prod.mk.injEq] at hc
  rcases mapD_spec hx hy (.lit (.int .i64 0)) he hr with ⟨h1, h2, h3⟩ | ⟨k', hk', h1, h2, h3, h4⟩
  · exact .inl ⟨h1, c, by rw [hrun, h2]⟩
  · refine .inr ⟨k', hk', h1, h2, ?_⟩
    rw [h4] at hc
    simp at hc
    rw [hrun, h3, hc.1]
end Go.Proofs.Ytgmlaimlcccmhaa
