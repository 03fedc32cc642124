/-
  THE WRAP THAT THE LAWS OF A SEAT SHARE. It is proved: a function whose row says 'whatever the input: true; the input reads as it did' meets its row as soon as its walk returns true and changes nothing that was there.
  CONDITIONS: none of its own; what is asked stands as a premise of each theorem.
-/
import Derived.Test.YtgmlaimlcccmhaaRows
import Derived.WalkKit
import Derived.ProofKit
import Derived.OpenShut
import Derived.SizedLaws
import Derived.Handy
namespace Go.Proofs.Ytgmlaimlcccmhaa.Kit
open Go.ChangeShapes Go.WideShapes Go.ChangeAt Go.RowKit

/-- What was read before the call reads the same behind it, argument by argument, where all that was there is as it was. -/
theorem trodAll_below {H : Type} {enc : TypeId × Value → H} {P : Program} (hl : laidOutB P = true) {W W' : World} (hb : Below W.heap.size W W') :
    ∀ (ts : List TypeId) (vs : List Value) (ds : List (DataW H)) (ps : List MemPlace), (∀ t, t ∈ ts → P.readableRec t = true ∧ t < P.types.size) →
      DataW.TrodAll enc P W 0 (fun _ => true) true ts vs ds ps → (∀ x, x ∈ ps → x.block < W.heap.size) → DataW.TrodAll enc P W' 0 (fun b => decide (b < W.heap.size)) true ts vs ds ps
  | [], [], [], _, _, h, _ => h
  | [], _ :: _, _, _, _, h, _ => h.elim
  | [], [], _ :: _, _, _, h, _ => h.elim
  | _ :: _, [], _, _, _, h, _ => h.elim
  | _ :: _, _ :: _, [], _, _, h, _ => h.elim
  | t :: ts, v :: vs, d :: ds, ps, hr, h, hlt => by
    obtain ⟨p, q, h1, h2, rfl⟩ := h
    refine ⟨p, q, ?_, ?_, rfl⟩
    · exact Below.trod hl (hr t (by simp)).1 (hr t (by simp)).2 h1 hb (fun x hx => hlt x (by simp [hx]))
    · exact trodAll_below hl hb ts vs ds q (fun t' ht => hr t' (by simp [ht])) h2 (fun x hx => hlt x (by simp [hx]))

theorem trodAll_length {H : Type} {enc : TypeId × Value → H} {P : Program} {W : World} {b : Nat} {sp : Nat → Bool} {hd : Bool} :
    ∀ (ts : List TypeId) (vs : List Value) (ds : List (DataW H)) (ps : List MemPlace), DataW.TrodAll enc P W b sp hd ts vs ds ps → vs.length = ts.length ∧ ds.length = ts.length
  | [], [], [], _, _ => ⟨rfl, rfl⟩
  | [], _ :: _, _, _, h => h.elim
  | [], [], _ :: _, _, h => h.elim
  | _ :: _, [], _, _, h => h.elim
  | _ :: _, _ :: _, [], _, h => h.elim
  | _ :: ts, _ :: vs, _ :: ds, _, h => by
    obtain ⟨_, q, _, h2, _⟩ := h
    have := trodAll_length ts vs ds q h2
    simp [this]

/-- A law's row, from its walk. 'walk' gets each argument's shape (hval), its reading and the reach, and shows that the call returns true and leaves all that was there. -/
theorem lifted {C : Checked} {f : FuncId} {fn : Func} {s : ChangeSpec} {tb : TypeId} {n : Nat}
    (hl : laidOutB C.prog = true) (own : ownKnob C.prog.godebug = none) (noInit : C.prog.inits.idxOf? f = none) (hfn : C.prog.funcs[f]? = some fn)
    (hvars : s.vars = []) (hres : fn.resultTypes = #[tb]) (htb : C.prog.underlying tb = some .bool) (hn : fn.params.size = n)
    (hread : ∀ t, t ∈ fn.params.toList → C.prog.readableRec t = true ∧ t < C.prog.types.size)
    (hspec : ∀ (H : Type) (ds : List (DataW H)), ds.length = n → s.fn H ds = { results := [.lit (.bool true)], args := ds })
    (walk : ∀ (W : World) (base : Nat) (args : Array Value) (H : Type) (enc : TypeId × Value → H) (ds : List (DataW H)) (p : List MemPlace), args.size = n →
      (∀ (j : Nat) t v, fn.params[j]? = some t → args[j]? = some v → Value.okWide C.prog W .any base t v) →
      DataW.TrodAll enc C.prog W 0 (fun _ => true) true fn.params.toList args.toList ds p → W.noneFrozen p →
      (DataW.weightsEach C.prog fn.params.toList ds).all (· ≤ reachBytes) = true →
      Calls C.prog f args W fun e w' => e = .returned (.bool true) ∧ Below W.heap.size W w')
    (os : Os) (started : os.Started) (H : Type) (enc : TypeId × Value → H)
    (witness : ∃ (w : World) (tape : Tape) (i : Input), w.os = os ∧ (w.forCall tape i).Shaped C.prog ∧ i.vars = [] ∧ Input.okWide C.prog (w.forCall tape i) .any w.heap.size f i ∧
      s.pre6 enc C.prog fn [] false (w.forCall tape i).memory i.args ∧ ({} : Assume).holds C.prog (lone (Frame.enter C.prog f i.args .normal) [] (w.forCall tape i))) :
    ReturnsInHanded {} C os f .any (s.pre6 enc C.prog fn [] false) (s.post enc C.prog fn false true false false) := by
  refine returnsInHanded_of_change_sized own started noInit hfn witness ?_
  intro W base args ds gs before hval hW _ hz _
  have hW' := hW
  obtain ⟨p, q, hA, hV, rfl, hfz, hnd⟩ := hW
  rw [hvars] at hV
  obtain ⟨rfl, rfl⟩ := trodVars_none hV
  have hlen := trodAll_length _ _ _ _ hA
  have hds : ds.length = n := by rw [hlen.2]; simpa using hn
  have hargs : args.size = n := by have := hlen.1; simpa [hn] using this
  have hlt : ∀ x, x ∈ p → x.block < W.heap.size := fun x hx => hW'.lt x (by simp [hx])
  have hvt : s.plain.varTypes C.prog = [] := by simp [DataSpec.varTypes, ChangeSpec.plain, hvars]
  rw [hvt] at hz
  simp only [List.append_nil] at hz hfz
  refine (walk W base args H enc ds p hargs hval hA hfz hz).mono fun e W' ⟨he, hb⟩ => ?_
  subst he
  refine ⟨_, rfl, ds, [], p, [], p, [], by simpa using hW', ?_, ?_, ?_, hb.frame _, fun h => by cases h⟩
  · rw [List.append_nil, hspec H ds hds, hres]
    exact trodAll_mk1 (shut_bool htb true)
  · rw [List.append_nil, hspec H ds hds]
    exact trodAll_below hl hb _ _ _ _ hread hA hlt
  · rw [hvars, List.append_nil, hspec H ds hds]; rfl

/-- Every cell of a row of plain integers is one. -/
theorem cells_int {P : Program} {W : World} {base : Nat} {t : TypeId} {cs : Array Value} {k : IntKind} {ts : List TypeId} (h : Row.okWide P W .any base t cs) (hts : P.cellTypes P.depth t = some ts)
    (hall : ∀ u, u ∈ ts → P.underlying u = some (.int k)) : ∀ (i : Nat) v, cs[i]? = some v → ∃ n : Int, v = .int k n ∧ k.has n := by
  intro i v hv
  obtain ⟨ts', h1, _, h3⟩ := h
  rw [hts] at h1
  obtain rfl := Option.some.inj h1
  obtain ⟨u, hu, hc⟩ := h3 i v hv
  have hk := hall u (List.mem_of_getElem? hu)
  unfold Cell.okWide at hc
  rw [hk] at hc
  have hc' : Cell.ok P W .any base u v := by
    cases v <;> exact hc
  unfold Cell.ok at hc'
  rw [hk] at hc'
  cases v <;> simp only at hc' <;> first | exact hc'.elim | skip
  case int k' n =>
    obtain ⟨rfl, hn⟩ := hc'
    exact ⟨n, rfl, hn⟩

theorem int_of {P : Program} {W : World} {base : Nat} {t : TypeId} {v : Value} {k : IntKind} (hu : P.underlying t = some (.int k)) (h : Value.okWide P W .any base t v) : ∃ n : Int, v = .int k n ∧ k.has n := by
  unfold Value.okWide at h
  rw [hu] at h
  simp only at h
  unfold Cell.okWide at h
  rw [hu] at h
  have hc' : Cell.ok P W .any base t v := by
    cases v <;> exact h
  unfold Cell.ok at hc'
  rw [hu] at hc'
  cases v <;> simp only at hc' <;> first | exact hc'.elim | skip
  case int k' n =>
    obtain ⟨rfl, hn⟩ := hc'
    exact ⟨n, rfl, hn⟩

theorem agg2_of {P : Program} {W : World} {base : Nat} {t : TypeId} {v : Value} {k : IntKind} {ts : List TypeId} {d : Array Field} (hu : P.underlying t = some (.struct d)) (hC : P.cellsOf t = 2) (hts : P.cellTypes P.depth t = some ts)
    (hall : ∀ u, u ∈ ts → P.underlying u = some (.int k)) (h : Value.okWide P W .any base t v) : ∃ x y : Int, v = .agg #[.int k x, .int k y] ∧ k.has x ∧ k.has y := by
  unfold Value.okWide at h
  rw [hu] at h
  obtain ⟨cs, rfl, hs, hr⟩ := h
  have hc := cells_int hr hts hall
  rw [hC] at hs
  obtain ⟨x, hx, bx⟩ := hc 0 _ (Array.getElem?_eq_getElem (by omega))
  obtain ⟨y, hy, by'⟩ := hc 1 _ (Array.getElem?_eq_getElem (by omega))
  refine ⟨x, y, ?_, bx, by'⟩
  congr 1
  apply Array.ext
  · simpa using hs
  · intro i h1 h2
    match i, h1 with
    | 0, _ => simpa using hx
    | 1, _ => simpa using hy
    | n + 2, h => omega

theorem agg4_of {P : Program} {W : World} {base : Nat} {t : TypeId} {v : Value} {k : IntKind} {ts : List TypeId} {d : Array Field} (hu : P.underlying t = some (.struct d)) (hC : P.cellsOf t = 4) (hts : P.cellTypes P.depth t = some ts)
    (hall : ∀ u, u ∈ ts → P.underlying u = some (.int k)) (h : Value.okWide P W .any base t v) : ∃ x y z u : Int, v = .agg #[.int k x, .int k y, .int k z, .int k u] ∧ k.has x ∧ k.has y ∧ k.has z ∧ k.has u := by
  unfold Value.okWide at h
  rw [hu] at h
  obtain ⟨cs, rfl, hs, hr⟩ := h
  have hc := cells_int hr hts hall
  rw [hC] at hs
  obtain ⟨x, hx, bx⟩ := hc 0 _ (Array.getElem?_eq_getElem (by omega))
  obtain ⟨y, hy, by'⟩ := hc 1 _ (Array.getElem?_eq_getElem (by omega))
  obtain ⟨z, hz, bz⟩ := hc 2 _ (Array.getElem?_eq_getElem (by omega))
  obtain ⟨u, hu, bu⟩ := hc 3 _ (Array.getElem?_eq_getElem (by omega))
  refine ⟨x, y, z, u, ?_, bx, by', bz, bu⟩
  congr 1
  apply Array.ext
  · simpa using hs
  · intro i h1 h2
    match i, h1 with
    | 0, _ => simpa using hx
    | 1, _ => simpa using hy
    | 2, _ => simpa using hz
    | 3, _ => simpa using hu
    | n + 4, h => omega

theorem agg6_of {P : Program} {W : World} {base : Nat} {t : TypeId} {v : Value} {k : IntKind} {ts : List TypeId} {e : TypeId} {m : Nat} (hu : P.underlying t = some (.array m e)) (hC : P.cellsOf t = 6) (hts : P.cellTypes P.depth t = some ts)
    (hall : ∀ u, u ∈ ts → P.underlying u = some (.int k)) (h : Value.okWide P W .any base t v) : ∃ a b c d e f : Int, v = .agg #[.int k a, .int k b, .int k c, .int k d, .int k e, .int k f] := by
  unfold Value.okWide at h
  rw [hu] at h
  obtain ⟨cs, rfl, hs, hr⟩ := h
  have hc := cells_int hr hts hall
  rw [hC] at hs
  obtain ⟨a, ha, _⟩ := hc 0 _ (Array.getElem?_eq_getElem (by omega))
  obtain ⟨b, hb, _⟩ := hc 1 _ (Array.getElem?_eq_getElem (by omega))
  obtain ⟨c, hcc, _⟩ := hc 2 _ (Array.getElem?_eq_getElem (by omega))
  obtain ⟨d, hd, _⟩ := hc 3 _ (Array.getElem?_eq_getElem (by omega))
  obtain ⟨e, he, _⟩ := hc 4 _ (Array.getElem?_eq_getElem (by omega))
  obtain ⟨f, hf, _⟩ := hc 5 _ (Array.getElem?_eq_getElem (by omega))
  refine ⟨a, b, c, d, e, f, ?_⟩
  congr 1
  apply Array.ext
  · simpa using hs
  · intro i h1 h2
    match i, h1 with
    | 0, _ => simpa using ha
    | 1, _ => simpa using hb
    | 2, _ => simpa using hcc
    | 3, _ => simpa using hd
    | 4, _ => simpa using he
    | 5, _ => simpa using hf
    | n + 6, h => omega
end Go.Proofs.Ytgmlaimlcccmhaa.Kit
