/-
  PROVED: TaintLinks: which links are tainted by any closed vertices, how many, and whether any way is not. CONDITIONS: none: for every hierarchy, every slice of flags and every way.
-/
import Derived.Test.YtgmlaimlcccmhaaNLaw
import Derived.Test.YtgmlaimlcccmhaaKit
import Derived.Deep.Slices
import Derived.Lib.Hide
namespace Go.Proofs.Ytgmlaimlcccmhaa
open Go.RowKit Go.Proofs.Ytgmlaimlcccmhaa.Tame
set_option maxHeartbeats 400000

theorem cell_slice {W : World} {base : Nat} {t e : TypeId} {v : Value} (hu : Try.prog.underlying t = some (.slice e)) (h : Cell.okWide Try.prog W .any base t v) : v = .slice none 0 0 ∨ ∃ a len cap, v = .slice (some a) len cap ∧ a.spot = none := by
  unfold Cell.okWide at h
  rw [hu] at h
  have hc' : Cell.ok Try.prog W .any base t v := by
    cases v <;> exact h
  unfold Cell.ok at hc'
  rw [hu] at hc'
  cases v <;> simp only at hc' <;> first | exact hc'.elim | skip
  case slice a x y =>
    cases a with
    | none =>
      left
      match x, y, hc' with
      | 0, 0, _ => rfl
    | some a => exact .inr ⟨a, x, y, rfl, hc'.2.2.2.1⟩
theorem value_slice {W : World} {base : Nat} {t e : TypeId} {v : Value} (hu : Try.prog.underlying t = some (.slice e)) (h : Value.okWide Try.prog W .any base t v) : Cell.okWide Try.prog W .any base t v := by
  unfold Value.okWide at h
  rw [hu] at h
  exact h
open Go.ChangeShapes Go.WideShapes Go.Deep
/-- A slice that came in: its elements' cells. -/
theorem slice_read {H : Type} {enc : TypeId × Value → H} {W : World} {base fuel : Nat} {t e : TypeId} {v : Value} {x : DataW H × List MemPlace} (hu : Try.prog.underlying t = some (.slice e)) (hok : Cell.okWide Try.prog W .any base t v) (h : DataW.trod enc Try.prog W 0 (fun _ => true) true fuel t [v] = some x) :
    ∃ (p : Option Addr) (n cap : Nat), v = .slice p n cap ∧ n ≤ 9223372036854775807 ∧ (0 < n → ∃ b off, p = some ⟨b, off, none⟩ ∧ ∃ (k : Nat) (D : Nat → DataW H) (Pl : Nat → List MemPlace), ∀ i, i < n → ∃ cs', W.cells? 0 ⟨b, off + i * Try.prog.cellsOf e, none⟩ (Try.prog.cellsOf e) = some cs' ∧ DataW.trod enc Try.prog W 0 (fun _ => true) true k e cs' = some (D i, Pl i)) := by
  rcases open_slice hu h with ⟨h0, _⟩ | ⟨a, len, cap, m, k, D, Pl, hcs, _, hl, hm, hmm, _, hi⟩
  · refine ⟨none, 0, 0, by simpa using h0, by omega, fun h => by omega⟩
  · obtain rfl : v = .slice (some a) len cap := by simpa using hcs
    rcases cell_slice hu hok with h1 | ⟨a', x', y', hv', hspot⟩
    · simp at h1
    · simp only [Value.slice.injEq, Option.some.injEq] at hv'
      rw [← hv'.1] at hspot
      obtain ⟨b, off, sp⟩ := a
      simp only at hspot
      subst hspot
      refine ⟨_, len, cap, rfl, by unfold maxLen at hm; omega, fun _ => ⟨b, off, rfl, k, D, Pl, fun i hil => ?_⟩⟩
      have hcap : m = cap := by rw [hmm]; simp
      have := hi i (by omega)
      rwa [add_at] at this
theorem cellsOf3 : Try.prog.cellsOf 3 = 1 := by kernel_rfl
theorem cellsOf4 : Try.prog.cellsOf 4 = 1 := by kernel_rfl
theorem cellsOf22 : Try.prog.cellsOf 22 = 1 := by kernel_rfl
theorem cellsOf23 : Try.prog.cellsOf 23 = 1 := by kernel_rfl
theorem cellsOf40 : Try.prog.cellsOf 40 = 4 := by kernel_rfl
theorem cellsOf25 : Try.prog.cellsOf 25 = 2 := by kernel_rfl
theorem ints_of {H : Type} {enc : TypeId × Value → H} {W : World} {base fuel : Nat} {v : Value} {x : DataW H × List MemPlace} (hok : Cell.okWide Try.prog W .any base 22 v) (h : DataW.trod enc Try.prog W 0 (fun _ => true) true fuel 22 [v] = some x) :
    ∃ (p : Option Addr) (n cap : Nat) (f : Fn), v = .slice p n cap ∧ n ≤ 9223372036854775807 ∧ IntsAt W p n f := by
  obtain ⟨p, n, cap, rfl, hn, hr⟩ := slice_read Try.underlying22 hok h
  by_cases h0 : 0 < n
  · obtain ⟨b, off, rfl, k, D, Pl, hi⟩ := hr h0
    have key : ∀ i, i < n → ∃ y : Int, W.cell? ⟨b, off + i, none⟩ = some (.int .i64 y) := by
      intro i hil
      obtain ⟨cs', hc, ht⟩ := hi i hil
      rw [cellsOf3, Nat.mul_one] at hc
      obtain ⟨y, rfl, _⟩ := DataW.trod_int Try.underlying3 ht
      exact ⟨y, cell_of_cells?_one hc⟩
    obtain ⟨f, hf⟩ := choose_lt key
    exact ⟨_, n, cap, f, rfl, hn, fun _ => ⟨b, off, rfl, hf⟩⟩
  · exact ⟨p, n, cap, fun _ => 0, rfl, hn, fun h => absurd h h0⟩
theorem bools_of {H : Type} {enc : TypeId × Value → H} {W : World} {base fuel : Nat} {v : Value} {x : DataW H × List MemPlace} (hok : Cell.okWide Try.prog W .any base 26 v) (h : DataW.trod enc Try.prog W 0 (fun _ => true) true fuel 26 [v] = some x) :
    ∃ (p : Option Addr) (n cap : Nat) (f : Fl), v = .slice p n cap ∧ n ≤ 9223372036854775807 ∧ BoolsAt W p n f := by
  obtain ⟨p, n, cap, rfl, hn, hr⟩ := slice_read Try.underlying26 hok h
  by_cases h0 : 0 < n
  · obtain ⟨b, off, rfl, k, D, Pl, hi⟩ := hr h0
    have key : ∀ i, i < n → ∃ y : Bool, W.cell? ⟨b, off + i, none⟩ = some (.bool y) := by
      intro i hil
      obtain ⟨cs', hc, ht⟩ := hi i hil
      rw [cellsOf4, Nat.mul_one] at hc
      obtain ⟨y, rfl, _⟩ := DataW.trod_bool Try.underlying4 ht
      exact ⟨y, cell_of_cells?_one hc⟩
    obtain ⟨f, hf⟩ := choose_lt key
    exact ⟨_, n, cap, f, rfl, hn, fun _ => ⟨b, off, rfl, hf⟩⟩
  · exact ⟨p, n, cap, fun _ => false, rfl, hn, fun h => absurd h h0⟩
instance lkNone : Inhabited Lk := ⟨⟨0, 0, 0, 0⟩⟩
theorem links_of {H : Type} {enc : TypeId × Value → H} {W : World} {base fuel : Nat} {v : Value} {x : DataW H × List MemPlace} (hok : Cell.okWide Try.prog W .any base 23 v) (h : DataW.trod enc Try.prog W 0 (fun _ => true) true fuel 23 [v] = some x) :
    ∃ (p : Option Addr) (n cap : Nat) (f : Ls), v = .slice p n cap ∧ n ≤ 9223372036854775807 ∧ LinksAt W p n f := by
  obtain ⟨p, n, cap, rfl, hn, hr⟩ := slice_read Try.underlying23 hok h
  by_cases h0 : 0 < n
  · obtain ⟨b, off, rfl, k, D, Pl, hi⟩ := hr h0
    have key : ∀ i, i < n → ∃ y : Lk, LkIn W b (off + i * 4) y := by
      intro i hil
      obtain ⟨cs', hc, ht⟩ := hi i hil
      rw [cellsOf40] at hc
      obtain ⟨_, hcl, hat⟩ := World.cells?_some hc
      obtain ⟨ys, n', _, _, _, hyl, hfl⟩ := DataW.trod_struct Try.underlying40 ht
      have g0 := hfl 0 _ rfl
      have g1 := hfl 1 _ rfl
      have g2 := hfl 2 _ rfl
      have g3 := hfl 3 _ rfl
      match cs', hcl with
      | [x0, x1, x2, x3], _ =>
        match ys, hyl with
        | [y0, y1, y2, y3], _ =>
          obtain ⟨n0, e0, _⟩ := DataW.trod_int Try.underlying3 g0
          obtain ⟨n1, e1, _⟩ := DataW.trod_int Try.underlying3 g1
          obtain ⟨n2, e2, _⟩ := DataW.trod_int Try.underlying3 g2
          obtain ⟨n3, e3, _⟩ := DataW.trod_int Try.underlying3 g3
          have e0' : List.take (Try.prog.cellsOf 3) (List.drop 0 [x0, x1, x2, x3]) = [.int .i64 n0] := e0
          have e1' : List.take (Try.prog.cellsOf 3) (List.drop 1 [x0, x1, x2, x3]) = [.int .i64 n1] := e1
          have e2' : List.take (Try.prog.cellsOf 3) (List.drop 2 [x0, x1, x2, x3]) = [.int .i64 n2] := e2
          have e3' : List.take (Try.prog.cellsOf 3) (List.drop 3 [x0, x1, x2, x3]) = [.int .i64 n3] := e3
          rw [cellsOf3] at e0' e1' e2' e3'
          simp at e0' e1' e2' e3'
          subst e0' e1' e2' e3'
          have a0 := hat 0 (by omega)
          have a1 := hat 1 (by omega)
          have a2 := hat 2 (by omega)
          have a3 := hat 3 (by omega)
          rw [add_at] at a0 a1 a2 a3
          exact ⟨⟨n0, n1, n2, n3⟩, by simpa using a0, by simpa using a1, by simpa using a2, by simpa using a3⟩
    obtain ⟨f, hf⟩ := choose_lt key
    exact ⟨_, n, cap, f, rfl, hn, fun _ => ⟨b, off, rfl, hf⟩⟩
  · exact ⟨p, n, cap, fun _ => ⟨0, 0, 0, 0⟩, rfl, hn, fun h => absurd h h0⟩
theorem ctypes25 : Try.prog.cellTypes Try.prog.depth 25 = some [22, 23] := by kernel_rfl
theorem hier_of {H : Type} {enc : TypeId × Value → H} {W : World} {base : Nat} {v : Value} {d : DataW H} {ps : List MemPlace} (hval : Value.okWide Try.prog W .any base 25 v) (h : DataW.Trod enc Try.prog W 0 (fun _ => true) true 25 v d ps) :
    ∃ (pr : Option Addr) (nr cr : Nat) (rk : Fn) (pl : Option Addr) (nl cl : Nat) (ls : Ls), v = HV pr nr cr pl nl cl ∧ nr ≤ 9223372036854775807 ∧ nl ≤ 9223372036854775807 ∧ HAt W pr nr rk pl nl ls := by
  obtain ⟨fuel, hf⟩ := h
  unfold Value.okWide at hval
  rw [Try.underlying25] at hval
  obtain ⟨cs, rfl, hs, ts', hts, _, hcell⟩ := hval
  rw [ctypes25] at hts
  obtain rfl := Option.some.inj hts
  rw [cellsOf25] at hs
  have hval2 : ∃ x0 x1, cs = #[x0, x1] := by
    refine ⟨cs[0], cs[1], ?_⟩
    apply Array.ext
    · simpa using hs
    · intro i h1 h2
      match i, h1 with
      | 0, _ => rfl
      | 1, _ => rfl
      | m + 2, hm => exact absurd hm (by omega)
  obtain ⟨x0, x1, rfl⟩ := hval2
  obtain ⟨u0, hu0, o0⟩ := hcell 0 x0 rfl
  obtain ⟨u1, hu1, o1⟩ := hcell 1 x1 rfl
  obtain rfl : 22 = u0 := by simpa using hu0
  obtain rfl : 23 = u1 := by simpa using hu1
  have hf' : DataW.trod enc Try.prog W 0 (fun _ => true) true fuel 25 [x0, x1] = some (d, ps) := hf
  obtain ⟨ys, n', _, _, _, hyl, hfl⟩ := DataW.trod_struct Try.underlying25 hf'
  have g0 := hfl 0 _ rfl
  have g1 := hfl 1 _ rfl
  match ys, hyl with
  | [y0, y1], _ =>
    have g0' : DataW.trod enc Try.prog W 0 (fun _ => true) true n' 22 (List.take (Try.prog.cellsOf 22) (List.drop 0 [x0, x1])) = some y0 := g0
    have g1' : DataW.trod enc Try.prog W 0 (fun _ => true) true n' 23 (List.take (Try.prog.cellsOf 23) (List.drop 1 [x0, x1])) = some y1 := g1
    rw [cellsOf22] at g0'
    rw [cellsOf23] at g1'
    obtain ⟨pr, nr, cr, rk, rfl, hnr, hr⟩ := ints_of o0 g0'
    obtain ⟨pl, nl, cl, ls, rfl, hnl, hl⟩ := links_of o1 g1'
    exact ⟨pr, nr, cr, rk, pl, nl, cl, ls, rfl, hnr, hnl, hr, hl⟩

theorem taint_all (pr : Option Addr) (nr cr : Nat) (pl : Option Addr) (nl cl : Nat) (pc : Option Addr) (nc cc : Nat) (pw : Option Addr) (nw cw : Nat) (rk : Fn) (ls : Ls) (cf : Fl) (lf : Fn) (w : World) (h1 : nr ≤ 9223372036854775807) (h2 : nl ≤ 9223372036854775807) (h3 : nc ≤ 9223372036854775807) (h4 : nw ≤ 9223372036854775807)
    (hh : HAt w pr nr rk pl nl ls) (hc : BoolsAt w pc nc cf) (hw : IntsAt w pw nw lf) :
    Calls Try.prog 3 #[HV pr nr cr pl nl cl, .slice pc nc cc, .slice pw nw cw] w fun e w' => e = .returned (.bool true) ∧ Below w.heap.size w w' := by
  by_cases hb : (nr ≤ 40 ∧ nl ≤ 400) ∧ nr ≤ 13 ∧ nc ≤ 40 ∧ nw ≤ 20
  · by_cases hm : MayP nr rk nl ls ∧ nc = nr
    · obtain ⟨hm, rfl⟩ := hm
      exact taint_yes pr nc cr pl nl cl pc cc pw nw cw rk ls cf lf w hb.2.1 hb.1.2 hb.2.2.2 hh hc hw hm
    · exact taint_no pr nr cr pl nl cl pc nc cc pw nw cw rk ls w hb.2.1 hb.1.2 hb.2.2.1 hb.2.2.2 hh hm
  · exact taint_big pr nr cr pl nl cl pc nc cc pw nw cw w h1 h2 h3 h4 hb

namespace taintLinks
open Go.ChangeShapes Go.WideShapes Go.ChangeAt
theorem spec_is (H : Type) : ∀ ds : List (DataW H), ds.length = 3 → Rows.taintLinksSpec.fn H ds = { results := [.lit (.bool true)], args := ds }
  | [], h => by cases h
  | [_], h => by cases h
  | [_, _], h => by cases h
  | [_, _, _], _ => rfl
  | _ :: _ :: _ :: _ :: _, h => by simp at h

theorem args_of {args : Array Value} (h : args.size = 3) : ∃ v0 v1 v2, args = #[v0, v1, v2] := by
  refine ⟨args[0], args[1], args[2], ?_⟩
  apply Array.ext
  · simpa using h
  · intro i h1 h2
    match i, h1 with
    | 0, _ => rfl
    | 1, _ => rfl
    | 2, _ => rfl
    | m + 3, hm => exact absurd hm (by omega)

set_option maxRecDepth 100000 in
theorem over : Rows.taintLinksRow.holds Try.pinned (OpenSpec.ofChange Rows.taintLinksSpec) :=
  OpenClaim.holds_of_wide 3 Try.f3 rfl rfl rfl rfl rfl rfl rfl ⟨rfl, rfl, rfl, rfl, rfl⟩ rfl rfl rfl rfl rfl (by kernel_rfl) Try.func3 (by kernel_rfl)
    (of_decide_eq_true (by kernel_rfl)) (by unfold Func.isWrapper; first | (rw [if_pos (by decide +kernel)]; kernel_rfl) | (rw [if_neg (by decide +kernel)]; exact ⟨rfl, rfl⟩))
    (fun os started H enc _ => Kit.lifted (C := Try.checked) (tb := 4) (n := 3) (by kernel_rfl) (by kernel_rfl) (by kernel_rfl) Try.func3 rfl (by kernel_rfl) Try.underlying4 (by kernel_rfl)
      (by
        have e : Try.f3.params.toList = [25, 26, 22] := by rw [Try.params3]
        rw [e]
        intro t ht
        simp only [List.mem_cons, List.not_mem_nil, or_false] at ht
        rcases ht with rfl | rfl | rfl <;> exact ⟨by kernel_rfl, of_decide_eq_true (by kernel_rfl)⟩)
      spec_is
      (by
        intro W base args H enc ds p hn hval hA hfz hz
        obtain ⟨v0, v1, v2, rfl⟩ := args_of hn
        rw [Try.params3] at hval
        have k0 := hval 0 25 v0 rfl rfl
        have k1 := hval 1 26 v1 rfl rfl
        have k2 := hval 2 22 v2 rfl rfl
        clear hval
        rw [Try.params3] at hA
        match ds, hA with
        | [_, _, _], hA =>
          obtain ⟨_, _, r0, ⟨_, _, r1, ⟨_, _, r2, _⟩, _⟩, _⟩ := hA
          obtain ⟨pr, nr, cr, rk, pl, nl, cl, ls, rfl, hnr, hnl, hh⟩ := hier_of k0 r0
          obtain ⟨f1, t1⟩ := r1
          obtain ⟨f2, t2⟩ := r2
          have o1 := value_slice Try.underlying26 k1
          have o2 := value_slice Try.underlying22 k2
          rcases cell_slice Try.underlying26 o1 with rfl | ⟨a1, l1, c1, rfl, _⟩ <;> rcases cell_slice Try.underlying22 o2 with rfl | ⟨a2, l2, c2, rfl, _⟩ <;>
          · obtain ⟨pc, nc, cc, cf, e1, hnc, hc⟩ := bools_of o1 t1
            obtain ⟨pw, nw, cw, lf, e2, hnw, hw⟩ := ints_of o2 t2
            simp only [Value.slice.injEq] at e1 e2
            obtain ⟨rfl, rfl, rfl⟩ := e1
            obtain ⟨rfl, rfl, rfl⟩ := e2
            exact taint_all _ _ _ _ _ _ _ _ _ _ _ _ rk ls cf lf W hnr hnl hnc hnw hh hc hw)
      os started H enc
      (ChangeSpec.witness6 (enc := enc) (C := Try.checked) false ⟨#[], #[.agg #[.slice none 0 0, .slice none 0 0], .slice none 0 0, .slice none 0 0], []⟩ 8 (by kernel_rfl) (by kernel_rfl) (by kernel_rfl) (by kernel_rfl)))
end taintLinks

/-- THE STATEMENT. -/
theorem taintLinks_holds : Rows.TaintLinksSaid := taintLinks.over
#print axioms taintLinks_holds

end Go.Proofs.Ytgmlaimlcccmhaa
