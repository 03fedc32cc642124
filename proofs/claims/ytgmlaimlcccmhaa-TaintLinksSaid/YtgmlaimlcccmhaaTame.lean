/-
  REGIONS THAT DRAW THEIR ORDER, WHOSE CALLS MAKE MEMORY OF THEIR OWN, AND THAT LAY VARIABLES OF THEIR OWN AT THE END. It is proved: one walk in the order of the text serves every order, if each read and each call gives one value in every later world (all that was there is as it was), and the variables that the region makes are only laid and filled.
  CONDITIONS: stated as premises; behind all allocs and stores of the region come allocs and stores alone.
-/
import Derived.WalkKit
import Derived.BigQuiet
import Derived.Handy
import Derived.Laws.CopyRow
import Derived.Laws.CopyOwn
namespace Go.Proofs.Ytgmlaimlcccmhaa.Tame
open Go.RowKit

/-- What the region itself has made so far: which block, what lies in it, and whether it has been filled. -/
abbrev Gh := Nat → Option (Obj × Bool)
def Gh.nil : Gh := fun _ => none
def Gh.set (γ : Gh) (k : Nat) (x : Obj × Bool) : Gh := fun i => if i = k then some x else γ i

theorem Gh.set_same (γ : Gh) (k : Nat) (x : Obj × Bool) : (γ.set k x) k = some x := by simp [Gh.set]
theorem Gh.set_ne (γ : Gh) {k i : Nat} (x : Obj × Bool) (h : i ≠ k) : (γ.set k x) i = γ i := by simp [Gh.set, h]
theorem Gh.set_comm (γ : Gh) {k i : Nat} (x y : Obj × Bool) (h : i ≠ k) : (γ.set k x).set i y = (γ.set i y).set k x := by
  funext j; unfold Gh.set; by_cases h1 : j = i <;> by_cases h2 : j = k <;> simp_all

/-- All blocks of 'W' but those of the list 'D' are as they were. -/
structure Kept (D : List Nat) (W w : World) : Prop where
  os : w.os = W.os
  tape : w.tape = W.tape
  output : w.output = W.output
  size : W.heap.size ≤ w.heap.size
  block : ∀ k, k < W.heap.size → k ∉ D → w.heap[k]? = W.heap[k]?

theorem Kept.refl (D : List Nat) (W : World) : Kept D W W := ⟨rfl, rfl, rfl, Nat.le_refl _, fun _ _ _ => rfl⟩
theorem Kept.grow {D : List Nat} {W w w' : World} (h : Kept D W w) (hb : Below w.heap.size w w') : Kept D W w' :=
  ⟨hb.os.trans h.os, hb.tape.trans h.tape, hb.output.trans h.output, Nat.le_trans h.size hb.size, fun k hk hd => (hb.block k (Nat.lt_of_lt_of_le hk h.size)).trans (h.block k hk hd)⟩
theorem Kept.below {D : List Nat} {W w : World} (h : Kept D W w) {B : Nat} (hB : B ≤ W.heap.size) (hD : ∀ d, d ∈ D → B ≤ d) : Below B W w :=
  ⟨h.os, h.tape, h.output, h.size, fun k hk => h.block k (Nat.lt_of_lt_of_le hk hB) (fun hd => absurd (hD k hd) (by omega))⟩

/-- A world behind 'W': all that was there, but for the variables in the list 'D', is as it was. -/
structure Later (W : World) (D : List Nat) where
  w : World
  h : Kept D W w
instance (W : World) (D : List Nat) : Nonempty (Later W D) := ⟨⟨W, Kept.refl _ _⟩⟩

structure Cls (W : World) (D : List Nat) (γ : Gh) (w : World) : Prop where
  kept : Kept D W w
  own : ∀ k o f, γ k = some (o, f) → (k ∈ D ∨ W.heap.size ≤ k) ∧ w.heap[k]? = some o

theorem lt_of_some {w : World} {k : Nat} {o : Obj} (h : w.heap[k]? = some o) : k < w.heap.size := by
  rcases Nat.lt_or_ge k w.heap.size with h' | h'
  · exact h'
  · rw [Array.getElem?_eq_none h'] at h; cases h

theorem Cls.grow {W : World} {D : List Nat} {γ : Gh} {w w' : World} (h : Cls W D γ w) (hb : Below w.heap.size w w') : Cls W D γ w' :=
  ⟨h.kept.grow hb, fun k o f hk => ⟨(h.own k o f hk).1, (hb.block k (lt_of_some (h.own k o f hk).2)).trans (h.own k o f hk).2⟩⟩

theorem Cls.fin {W : World} {D : List Nat} {γ : Gh} {w : World} (h : Cls W D γ w) : ∃ N, ∀ k, N ≤ k → γ k = none := by
  refine ⟨w.heap.size, fun k hk => ?_⟩
  cases hg : γ k with
  | none => rfl
  | some x => have := lt_of_some (h.own k x.1 x.2 hg).2; omega

def calmUpon (P : Program) (w : World) (v : Value) : Result Next → Prop
  | .ok (.value u) w' => w' = w ∧ u = v
  | .ok .skip w' => w' = w ∧ v = undef
  | .ok (.enter f args) w' => w' = w ∧ Calls P f args w (fun e w'' => e = .returned v ∧ Below w.heap.size w w'')
  | _ => False

inductive Kind where
  | lay
  | fill (p s : Operand)
  | calm
def kind (o : Oper) : Kind := match o.op with
  | .alloc _ => .lay
  | .store _ p s => .fill p s
  | _ => .calm

/-- One operation that is carried out, in the state 'a', the region's own blocks being 'γ'. -/
def act (P : Program) (W : World) (D : List Nat) (o : Oper) (a : Act) (γ : Gh) (K : Act → Gh → Prop) : Prop :=
  match kind o with
  | .lay => ∃ ob, (∀ x : Later W D, (execOp a.eval o).run P x.w = .ok (.value (.pointer (some ⟨x.w.heap.size, 0, none⟩))) (x.w.alloc ob)) ∧
      ∀ k, W.heap.size ≤ k → γ k = none → K (a.put o.dst (.pointer (some ⟨k, 0, none⟩))) (γ.set k (ob, false))
  | .fill p s => ∃ k ob t, a.eval p = .pointer (some ⟨k, 0, none⟩) ∧ γ k = some (.cells ob t, false) ∧
      (∀ x : Later W D, x.w.heap[k]? = some (.cells ob t) → (execOp a.eval o).run P x.w = .ok .skip (x.w.setRow k (a.eval s).cells)) ∧
      K (a.put o.dst undef) (γ.set k (.cells (a.eval s).cells t, true))
  | .calm => ∃ v, (∀ x : Later W D, calmUpon P x.w v ((execOp a.eval o).run P x.w)) ∧ K (a.put o.dst v) γ

def stepT (P : Program) (ops : Array Oper) (W : World) (D : List Nat) (o : Oper) (a : Act) (γ : Gh) (K : Act → Gh → Prop) : Prop :=
  if Region.wanted o (yielded ops a.tmps) then act P W D o a γ K else K (a.put o.dst undef) γ

section
variable {P : Program} {ops : Array Oper} {md : Region.Mode} {W : World} {D : List Nat}

theorem act_mono {o : Oper} {a : Act} {γ : Gh} {K K' : Act → Gh → Prop} (h : ∀ a γ, K a γ → K' a γ) (hh : act P W D o a γ K) : act P W D o a γ K' := by
  unfold act at *
  cases hk : kind o <;> rw [hk] at hh <;> simp only at hh ⊢
  · obtain ⟨ob, h1, h2⟩ := hh; exact ⟨ob, h1, fun k a b => h _ _ (h2 k a b)⟩
  · obtain ⟨k, ob, t, h1, h2, h3, h4⟩ := hh; exact ⟨k, ob, t, h1, h2, h3, h _ _ h4⟩
  · obtain ⟨v, h1, h2⟩ := hh; exact ⟨v, h1, h _ _ h2⟩

theorem stepT_mono {o : Oper} {a : Act} {γ : Gh} {K K' : Act → Gh → Prop} (h : ∀ a γ, K a γ → K' a γ) (hh : stepT P ops W D o a γ K) : stepT P ops W D o a γ K' := by
  unfold stepT at *
  split
  · rename_i hw; rw [if_pos hw] at hh; exact act_mono h hh
  · rename_i hw; rw [if_neg hw] at hh; exact h _ _ hh

def stepAt (P : Program) (ops : Array Oper) (W : World) (D : List Nat) (i : Nat) (K : Act → Gh → Prop) (a : Act) (γ : Gh) : Prop :=
  match ops[i]? with
  | none => K a γ
  | some o => stepT P ops W D o a γ K

theorem stepAt_mono {i : Nat} {a : Act} {γ : Gh} {K K' : Act → Gh → Prop} (h : ∀ a γ, K a γ → K' a γ) (hh : stepAt P ops W D i K a γ) : stepAt P ops W D i K' a γ := by
  unfold stepAt at *
  cases ho : ops[i]? <;> rw [ho] at hh <;> simp only at hh ⊢
  · exact h _ _ hh
  · exact stepT_mono h hh

/-- Whatever order is picked from here on. -/
def anyT (P : Program) (md : Region.Mode) (ops : Array Oper) (W : World) (D : List Nat) (Q : Act → Gh → Prop) : Nat → Array Bool → Act → Gh → Prop
  | 0, listed, a, γ => Region.ready md ops listed = [] ∧ Q a γ
  | fuel + 1, listed, a, γ =>
    (Region.ready md ops listed = [] → Q a γ) ∧
    ∀ i, i ∈ Region.ready md ops listed → stepAt P ops W D i (anyT P md ops W D Q fuel (listed.setIfInBounds i true)) a γ

theorem setRow_block (w : World) (k : Nat) (cs : Array Value) (i : Nat) (h : i ≠ k) : (w.setRow k cs).heap[i]? = w.heap[i]? := setRow_other w k i cs h

theorem heap_alloc_old (w : World) (o : Obj) (k : Nat) (h : k < w.heap.size) : (w.alloc o).heap[k]? = w.heap[k]? := Below.heap_alloc w o k h
theorem heap_alloc_at (w : World) (o : Obj) : (w.alloc o).heap[w.heap.size]? = some o := (MapKept.heap_alloc w o).1

theorem wp_of_act {o : Oper} {a : Act} {γ : Gh} {K : Act → Gh → Prop} {K' : Act → World → Prop} {Q' : Exit → Act → World → Prop} {w : World} (hw : Cls W D γ w)
    (h : ∀ a γ w', Cls W D γ w' → K a γ → K' a w') (hh : act P W D o a γ K) : o.wp P a w K' Q' := by
  unfold act at hh
  unfold Oper.wp
  cases hk : kind o <;> rw [hk] at hh <;> simp only at hh
  · obtain ⟨ob, h1, h2⟩ := hh
    have e := h1 ⟨w, hw.kept⟩
    simp only at e
    rw [e]
    have hfr : γ w.heap.size = none := by
      cases hg : γ w.heap.size with
      | none => rfl
      | some x => have := lt_of_some (hw.own _ x.1 x.2 hg).2; omega
    refine h _ _ _ ⟨⟨hw.kept.os, hw.kept.tape, hw.kept.output, Nat.le_trans hw.kept.size (by simp), fun k hk hd => (heap_alloc_old w _ k (Nat.lt_of_lt_of_le hk hw.kept.size)).trans (hw.kept.block k hk hd)⟩, fun k o' f hk => ?_⟩ (h2 w.heap.size hw.kept.size hfr)
    by_cases hkk : k = w.heap.size
    · subst hkk; rw [Gh.set_same] at hk; cases hk; exact ⟨.inr hw.kept.size, heap_alloc_at w _⟩
    · rw [Gh.set_ne _ _ hkk] at hk
      have := hw.own k o' f hk
      exact ⟨this.1, by rw [heap_alloc_old w _ k (lt_of_some this.2)]; exact this.2⟩
  · obtain ⟨k, ob, t, h1, h2, h3, h4⟩ := hh
    have hob := hw.own _ _ _ h2
    have e := h3 ⟨w, hw.kept⟩ hob.2
    simp only at e
    rw [e]
    have hoff : ∀ i, i < W.heap.size → i ∉ D → i ≠ k := fun i hi hd e => by
      subst e
      rcases hob.1 with h' | h'
      · exact hd h'
      · omega
    refine h _ _ _ ⟨⟨hw.kept.os, hw.kept.tape, hw.kept.output, by simp only [size_setRow]; exact hw.kept.size, fun i hi hd => (setRow_block w k _ i (hoff i hi hd)).trans (hw.kept.block i hi hd)⟩, fun i o' f hi => ?_⟩ h4
    by_cases hik : i = k
    · subst hik; rw [Gh.set_same] at hi; cases hi
      exact ⟨hob.1, setRow_heap w i _ _ t _ hob.2⟩
    · rw [Gh.set_ne _ _ hik] at hi
      have := hw.own i o' f hi
      exact ⟨this.1, by rw [setRow_block w k _ i hik]; exact this.2⟩
  · obtain ⟨v, h1, h2⟩ := hh
    have e := h1 ⟨w, hw.kept⟩
    simp only at e
    generalize (execOp a.eval o).run P w = r at *
    cases r with
    | ok n w' =>
      cases n <;> simp only [calmUpon] at e <;> simp only [Oper.upon]
      case value u =>
        obtain ⟨e1, e2⟩ := e
        rw [e1, e2]
        exact h _ _ _ hw h2
      case skip =>
        obtain ⟨e1, e2⟩ := e
        rw [e1, ← e2]
        exact h _ _ _ hw h2
      case enter f args =>
        obtain ⟨e1, hc⟩ := e
        rw [e1]
        exact hc.mono fun e w'' ⟨he, hw''⟩ => by subst he; exact h _ _ _ (hw.grow hw'') h2
    | halt x w' => simp only [calmUpon] at e

theorem wpOp_of_stepAt {i : Nat} {a : Act} {γ : Gh} {K : Act → Gh → Prop} {K' : Act → World → Prop} {Q' : Exit → Act → World → Prop} {w : World} (hC : Cls W D γ w)
    (h : ∀ a γ w', Cls W D γ w' → K a γ → K' a w') (hh : stepAt P ops W D i K a γ) : wpOp P ops Q' i K' a w := by
  unfold stepAt at hh
  unfold wpOp
  split
  · rename_i ho; simp only [ho] at hh; exact h _ _ _ hC hh
  · rename_i o ho
    simp only [ho] at hh
    unfold stepT at hh
    split
    · rename_i hw; simp only [hw, if_true] at hh; exact .inl (wp_of_act hC h hh)
    · rename_i hw; simp only [hw] at hh; exact h _ _ _ hC hh

theorem wpAny_of_tame {Q : Act → Gh → Prop} {Q' : Exit → Act → World → Prop} (hQ : ∀ a γ w, Cls W D γ w → Q a γ → Q' .normal a w) : ∀ (fuel : Nat) (listed : Array Bool) (a : Act) (γ : Gh) (w : World), Cls W D γ w →
    anyT P md ops W D Q fuel listed a γ → wpAny P md ops Q' fuel listed a w
  | 0, _, _, _, _, hw, h => ⟨h.1, hQ _ _ _ hw h.2⟩
  | fuel + 1, _, _, _, _, hw, h => ⟨fun h0 => hQ _ _ _ hw (h.1 h0), fun i hi => wpOp_of_stepAt hw (fun a' γ' w' hw' => wpAny_of_tame hQ fuel _ a' γ' w' hw') (h.2 i hi)⟩

/-! ### An operation that is apart from another one -/

theorem act_put_kind {oi oj : Oper} {a : Act} (u : Value) (hsj : ∀ cs b, oj.op ≠ .select cs b) (h : ∀ d, oi.dst = some d → d ∉ oj.looksAt ops) :
    execOp (a.put oi.dst u).eval oj = execOp a.eval oj := execOp_put oj hsj a oi.dst u h

theorem eval_put {oi oj : Oper} {p s : Operand} (hk : kind oj = .fill p s) (h : ∀ d, oi.dst = some d → d ∉ oj.looksAt ops) (a : Act) (u : Value) :
    (a.put oi.dst u).eval p = a.eval p ∧ (a.put oi.dst u).eval s = a.eval s := by
  have hop : ∃ t, oj.op = .store t p s := by
    unfold kind at hk
    split at hk
    · cases hk
    · cases hk; exact ⟨_, by assumption⟩
    · cases hk
  obtain ⟨t, hop⟩ := hop
  have hlook : ∀ (q : Operand) d, q = .tmp d → (q = p ∨ q = s) → d ∈ oj.looksAt ops := fun q d hq hps => by
    unfold Oper.looksAt
    rw [hop]
    refine List.mem_append_left _ ?_
    rcases hps with rfl | rfl <;> subst hq <;> simp [Op.operands]
  constructor
  · exact Act.eval_put fun d hd hp => h d hd (hlook p d hp (.inl rfl))
  · exact Act.eval_put fun d hd hp => h d hd (hlook s d hp (.inr rfl))

/-- A calm operation that may come up now may be taken first. -/
theorem anyT_calm {Q : Act → Gh → Prop} {i : Nat} {oi : Oper} {v : Value} (hi : ops[i]? = some oi) (hsel : ∀ (j : Nat) (o : Oper) cs b, ops[j]? = some o → o.op ≠ .select cs b) :
    ∀ (fuel : Nat) (listed : Array Bool) (a : Act) (γ : Gh),
      (∀ j oj, ops[j]? = some oj → j ≠ i → listed.getD j true = false → (∀ e ∈ oj.after, Region.binds md e = true → e.on ≠ i) → oi.apart ops oj = true) →
      i ∈ Region.ready md ops listed →
      ((Region.wanted oi (yielded ops a.tmps) = true ∧ kind oi = .calm ∧ ∀ x : Later W D, calmUpon P x.w v ((execOp a.eval oi).run P x.w)) ∨ (Region.wanted oi (yielded ops a.tmps) = false ∧ v = undef)) →
      anyT P md ops W D Q fuel (listed.setIfInBounds i true) (a.put oi.dst v) γ → anyT P md ops W D Q (fuel + 1) listed a γ := by
  intro fuel
  have take : ∀ (a : Act) (γ : Gh) (K : Act → Gh → Prop), ((Region.wanted oi (yielded ops a.tmps) = true ∧ kind oi = .calm ∧ ∀ x : Later W D, calmUpon P x.w v ((execOp a.eval oi).run P x.w)) ∨ (Region.wanted oi (yielded ops a.tmps) = false ∧ v = undef)) →
      K (a.put oi.dst v) γ → stepAt P ops W D i K a γ := fun a γ K hy hK => by
    unfold stepAt
    simp only [hi]
    unfold stepT
    rcases hy with ⟨hw, hk, hc⟩ | ⟨hw, rfl⟩
    · rw [if_pos hw]; unfold act; rw [hk]; exact ⟨v, hc, hK⟩
    · rw [if_neg (by rw [hw]; exact Bool.false_ne_true)]; exact hK
  induction fuel with
  | zero =>
    intro listed a γ _ hr hy H
    refine ⟨fun h => (by rw [h] at hr; cases hr), fun j hj => ?_⟩
    by_cases hji : j = i
    · subst hji; exact take a γ _ hy H
    · have := ready_mono hj hji
      rw [H.1] at this
      cases this
  | succ fuel ih =>
    intro listed a γ hfree hr hy H
    refine ⟨fun h => (by rw [h] at hr; cases hr), fun j hj => ?_⟩
    by_cases hji : j = i
    · subst hji; exact take a γ _ hy H
    · have h1 := H.2 j (ready_mono hj hji)
      obtain ⟨hjun, oj, hoj, hall⟩ := mem_ready.1 hj
      have hnot : ∀ e ∈ oj.after, Region.binds md e = true → e.on ≠ i := fun e he hb heq => by
        have h1 := hall e he hb
        have h0 := (mem_ready.1 hr).1
        rw [heq] at h1
        rcases Nat.lt_or_ge i listed.size with h' | h'
        · simp [h'] at h0 h1; rw [h0] at h1; cases h1
        · simp [Array.getElem?_eq_none h'] at h1
      have hap := hfree j oj hoj hji hjun hnot
      obtain ⟨q1, q2, q3⟩ := Oper.apart_spec hap
      have hsj := fun cs b => hsel j oj cs b hoj
      have hsi := fun cs b => hsel i oi cs b hi
      have keep : ∀ u, ((Region.wanted oi (yielded ops (a.put oj.dst u).tmps) = true ∧ kind oi = .calm ∧ ∀ x : Later W D, calmUpon P x.w v ((execOp (a.put oj.dst u).eval oi).run P x.w)) ∨ (Region.wanted oi (yielded ops (a.put oj.dst u).tmps) = false ∧ v = undef)) := fun u => by
        rw [wanted_put oi a oj.dst u q3, execOp_put oi hsi a oj.dst u q3]; exact hy
      have hfree' : ∀ k ok, ops[k]? = some ok → k ≠ i → (listed.setIfInBounds j true).getD k true = false →
          (∀ e ∈ ok.after, Region.binds md e = true → e.on ≠ i) → oi.apart ops ok = true := fun k ok hk hki hun hno => by
        refine hfree k ok hk hki ?_ hno
        by_cases hjk : j = k
        · subst hjk; exact hjun
        · rw [getD_set_ne true hjk] at hun; exact hun
      have go : ∀ u γ', anyT P md ops W D Q fuel ((listed.setIfInBounds i true).setIfInBounds j true) ((a.put oi.dst v).put oj.dst u) γ' →
          anyT P md ops W D Q (fuel + 1) (listed.setIfInBounds j true) (a.put oj.dst u) γ' := fun u γ' h => by
        refine ih _ _ _ hfree' (ready_mono hr (Ne.symm hji)) (keep u) ?_
        rw [Array.setIfInBounds_comm _ _ hji, ← Act.put_comm a v u q2]
        exact h
      unfold stepAt at h1 ⊢
      simp only [hoj] at h1 ⊢
      unfold stepT at h1 ⊢
      rw [wanted_put oj a oi.dst v q1] at h1
      split
      · rename_i hw
        rw [if_pos hw] at h1
        unfold act at h1 ⊢
        cases hk : kind oj <;> rw [hk] at h1 <;> simp only at h1 ⊢
        · obtain ⟨ob, r1, r2⟩ := h1
          rw [execOp_put oj hsj a oi.dst v q1] at r1
          exact ⟨ob, r1, fun k a1 a2 => go _ _ (r2 k a1 a2)⟩
        · obtain ⟨k, ob, t, r1, r2, r3, r4⟩ := h1
          have he := eval_put (ops := ops) hk q1 a v
          rw [execOp_put oj hsj a oi.dst v q1] at r3
          rw [he.1] at r1
          rw [he.2] at r3 r4
          exact ⟨k, ob, t, r1, r2, r3, go _ _ r4⟩
        · obtain ⟨u, r1, r2⟩ := h1
          rw [execOp_put oj hsj a oi.dst v q1] at r1
          exact ⟨u, r1, go _ _ r2⟩
      · rename_i hw
        rw [if_neg hw] at h1
        exact go _ _ h1

/-! ### Allocs and fills, when nothing else is left -/

def bare (o : Oper) : Bool := o.guard.isNone && (match o.op with | .alloc _ => true | .store .. => true | _ => false)

theorem bare_kind {o : Oper} (h : bare o = true) : kind o = .lay ∨ ∃ p s, kind o = .fill p s := by
  unfold bare at h
  unfold kind
  rw [Bool.and_eq_true] at h
  cases ho : o.op <;> rw [ho] at h <;> simp at h ⊢

/-- What may stand behind the first alloc or fill. -/
def late (o : Oper) : Bool := o.guard.isNone && (match o.op with | .alloc _ => true | .store .. => true | .assign _ => true | .move _ => true | _ => false)
theorem late_kind {o : Oper} (h : late o = true) : kind o = .lay ∨ (∃ p s, kind o = .fill p s) ∨ (kind o = .calm ∧ ∃ x, o.op = .assign x ∨ o.op = .move x) := by
  unfold late at h
  unfold kind
  rw [Bool.and_eq_true] at h
  cases ho : o.op <;> rw [ho] at h <;> simp at h ⊢
theorem late_wanted {o : Oper} (h : late o = true) (f : Nat → Option Bool) : Region.wanted o f = true := by
  unfold late at h
  rw [Bool.and_eq_true] at h
  have hg : o.guard = none := by cases hg : o.guard <;> simp [hg] at h ⊢
  unfold Region.wanted
  rw [hg]
theorem simple_run {o : Oper} (h : ∃ x, o.op = .assign x ∨ o.op = .move x) (a : Act) (w : World) : ∃ u, (execOp a.eval o).run P w = .ok (.value u) w ∧ ∀ w', (execOp a.eval o).run P w' = .ok (.value u) w' := by
  obtain ⟨x, h⟩ := h
  refine ⟨a.eval x, ?_, fun w' => ?_⟩ <;> rcases h with h | h <;> simp [execOp, h]

theorem bare_wanted {o : Oper} (h : bare o = true) (f : Nat → Option Bool) : Region.wanted o f = true := by
  unfold bare at h
  rw [Bool.and_eq_true] at h
  have hg : o.guard = none := by cases hg : o.guard <;> simp [hg] at h ⊢
  unfold Region.wanted
  rw [hg]

theorem alloc_inj {W : World} {x y : Obj} (h : W.alloc x = W.alloc y) : x = y := by
  have h1 := heap_alloc_at W x
  rw [h, heap_alloc_at W y] at h1
  exact (Option.some.inj h1).symm

theorem lay_inj {W : World} {D : List Nat} {r : World → Result Next} {x y : Obj} (hx : ∀ z : Later W D, r z.w = .ok (.value (.pointer (some ⟨z.w.heap.size, 0, none⟩))) (z.w.alloc x))
    (hy : ∀ z : Later W D, r z.w = .ok (.value (.pointer (some ⟨z.w.heap.size, 0, none⟩))) (z.w.alloc y)) : x = y := by
  have h1 := hx ⟨W, Kept.refl _ _⟩
  rw [hy ⟨W, Kept.refl _ _⟩] at h1
  simp only [Result.ok.injEq] at h1
  exact alloc_inj h1.2.symm

theorem ptr_inj {k i : Nat} (h : Value.pointer (some ⟨k, 0, none⟩) = Value.pointer (some ⟨i, 0, none⟩)) : k = i := by
  simpa using h

theorem anyT_bare {Q : Act → Gh → Prop} {i : Nat} {oi : Oper} (hi : ops[i]? = some oi) (hbi : bare oi = true) (hsel : ∀ (j : Nat) (o : Oper) cs b, ops[j]? = some o → o.op ≠ .select cs b) :
    ∀ (fuel : Nat) (listed : Array Bool) (a : Act) (γ : Gh), (∃ N, ∀ k, N ≤ k → γ k = none) →
      (∀ j oj, ops[j]? = some oj → j ≠ i → listed.getD j true = false → late oj = true) →
      (∀ j oj, ops[j]? = some oj → j ≠ i → listed.getD j true = false → (∀ e ∈ oj.after, Region.binds md e = true → e.on ≠ i) → oi.apart ops oj = true) →
      i ∈ Region.ready md ops listed →
      act P W D oi a γ (anyT P md ops W D Q fuel (listed.setIfInBounds i true)) → anyT P md ops W D Q (fuel + 1) listed a γ := by
  intro fuel
  have take : ∀ (a : Act) (γ : Gh) (K : Act → Gh → Prop), act P W D oi a γ K → stepAt P ops W D i K a γ := fun a γ K h => by
    unfold stepAt
    simp only [hi]
    unfold stepT
    rw [if_pos (bare_wanted hbi _)]; exact h
  have some1 : ∀ γ : Gh, (∃ N, ∀ k, N ≤ k → γ k = none) → ∃ k, W.heap.size ≤ k ∧ γ k = none := fun γ ⟨N, hN⟩ => ⟨N + W.heap.size, by omega, hN _ (by omega)⟩
  have some2 : ∀ γ : Gh, (∃ N, ∀ k, N ≤ k → γ k = none) → ∀ j, ∃ k, W.heap.size ≤ k ∧ γ k = none ∧ k ≠ j := fun γ ⟨N, hN⟩ j => by
    by_cases h : N + W.heap.size = j
    · exact ⟨N + W.heap.size + 1, by omega, hN _ (by omega), by omega⟩
    · exact ⟨N + W.heap.size, by omega, hN _ (by omega), h⟩
  have finSet : ∀ (γ : Gh) k x, (∃ N, ∀ k, N ≤ k → γ k = none) → ∃ N, ∀ i, N ≤ i → (γ.set k x) i = none := fun γ k x ⟨N, hN⟩ =>
    ⟨N + k + 1, fun i hi => by rw [Gh.set_ne _ _ (by omega)]; exact hN _ (by omega)⟩
  induction fuel with
  | zero =>
    intro listed a γ hfin _ _ hr H
    have dead : ∀ j, j ∈ Region.ready md ops listed → j = i := fun j hj => by
      by_cases hji : j = i
      · exact hji
      · exfalso
        have h0 := ready_mono hj hji
        unfold act at H
        cases hk : kind oi <;> rw [hk] at H <;> simp only at H
        · obtain ⟨ob, _, h2⟩ := H
          obtain ⟨k, k1, k2⟩ := some1 γ hfin
          rw [(h2 k k1 k2).1] at h0; cases h0
        · obtain ⟨_, _, _, _, _, _, h4⟩ := H
          rw [h4.1] at h0; cases h0
        · obtain ⟨_, _, h4⟩ := H
          rw [h4.1] at h0; cases h0
    refine ⟨fun h => (by rw [h] at hr; cases hr), fun j hj => ?_⟩
    obtain rfl := dead j hj
    exact take a γ _ H
  | succ fuel ih =>
    intro listed a γ hfin hbare hfree hr H
    refine ⟨fun h => (by rw [h] at hr; cases hr), fun j hj => ?_⟩
    by_cases hji : j = i
    · subst hji; exact take a γ _ H
    · obtain ⟨hjun, oj, hoj, hall⟩ := mem_ready.1 hj
      have hnot : ∀ e ∈ oj.after, Region.binds md e = true → e.on ≠ i := fun e he hb heq => by
        have h1 := hall e he hb
        have h0 := (mem_ready.1 hr).1
        rw [heq] at h1
        rcases Nat.lt_or_ge i listed.size with h' | h'
        · simp [h'] at h0 h1; rw [h0] at h1; cases h1
        · simp [Array.getElem?_eq_none h'] at h1
      have hap := hfree j oj hoj hji hjun hnot
      have hbj := hbare j oj hoj hji hjun
      obtain ⟨q1, q2, q3⟩ := Oper.apart_spec hap
      have hsj := fun cs b => hsel j oj cs b hoj
      have hsi := fun cs b => hsel i oi cs b hi
      have hfree' : ∀ k ok, ops[k]? = some ok → k ≠ i → (listed.setIfInBounds j true).getD k true = false →
          (∀ e ∈ ok.after, Region.binds md e = true → e.on ≠ i) → oi.apart ops ok = true := fun k ok hk hki hun hno => by
        refine hfree k ok hk hki ?_ hno
        by_cases hjk : j = k
        · subst hjk; exact hjun
        · rw [getD_set_ne true hjk] at hun; exact hun
      have hbare' : ∀ k ok, ops[k]? = some ok → k ≠ i → (listed.setIfInBounds j true).getD k true = false → late ok = true := fun k ok hk hki hun => by
        refine hbare k ok hk hki ?_
        by_cases hjk : j = k
        · subst hjk; exact hjun
        · rw [getD_set_ne true hjk] at hun; exact hun
      have go : ∀ u γ', (∃ N, ∀ k, N ≤ k → γ' k = none) → act P W D oi (a.put oj.dst u) γ' (anyT P md ops W D Q fuel ((listed.setIfInBounds j true).setIfInBounds i true)) →
          anyT P md ops W D Q (fuel + 1) (listed.setIfInBounds j true) (a.put oj.dst u) γ' := fun u γ' hf h =>
        ih _ _ _ hf hbare' hfree' (ready_mono hr (Ne.symm hji)) h
      have behind : ∀ a' γ', anyT P md ops W D Q (fuel + 1) (listed.setIfInBounds i true) a' γ' → act P W D oj a' γ' (anyT P md ops W D Q fuel ((listed.setIfInBounds j true).setIfInBounds i true)) := fun a' γ' h => by
        have h1 := h.2 j (ready_mono hj hji)
        unfold stepAt at h1
        simp only [hoj] at h1
        unfold stepT at h1
        rw [if_pos (late_wanted hbj _), Array.setIfInBounds_comm _ _ (Ne.symm hji)] at h1
        exact h1
      unfold stepAt
      simp only [hoj]
      unfold stepT
      rw [if_pos (late_wanted hbj _)]
      have H := act_mono (fun a' γ' => behind a' γ') H
      rcases bare_kind hbi with hki | ⟨pi, si, hki⟩ <;> rcases late_kind hbj with hkj | ⟨pj, sj, hkj⟩ | ⟨hkj, hxj⟩
      · -- lay, lay
        unfold act at H
        rw [hki] at H
        obtain ⟨obi, ri, H⟩ := H
        simp only [act, hkj] at H ⊢
        obtain ⟨k0, k01, k02⟩ := some1 γ hfin
        obtain ⟨obj, rj, _⟩ := H k0 k01 k02
        rw [execOp_put oj hsj a oi.dst _ q1] at rj
        refine ⟨obj, rj, fun k' k1 k2 => go _ _ (finSet _ _ _ hfin) ?_⟩
        simp only [act, hki]
        rw [execOp_put oi hsi a oj.dst _ q3]
        refine ⟨obi, ri, fun k k3 k4 => ?_⟩
        have hne : k ≠ k' := fun e => by subst e; rw [Gh.set_same] at k4; cases k4
        rw [Gh.set_ne _ _ hne] at k4
        obtain ⟨obj', rj', hK⟩ := H k k3 k4
        rw [execOp_put oj hsj a oi.dst _ q1] at rj'
        obtain rfl := lay_inj rj rj'
        have := hK k' k1 (by rw [Gh.set_ne _ _ (Ne.symm hne)]; exact k2)
        rw [← Act.put_comm a _ _ q2, ← Gh.set_comm γ _ _ (Ne.symm hne)]
        exact this
      · -- lay, fill
        unfold act at H
        rw [hki] at H
        obtain ⟨obi, ri, H⟩ := H
        simp only [act, hkj] at H ⊢
        obtain ⟨k0, k01, k02⟩ := some1 γ hfin
        have ev := fun u => eval_put (ops := ops) hkj q1 a u
        obtain ⟨kj, ob, t, r1, r2, r3, _⟩ := H k0 k01 k02
        rw [(ev _).1] at r1
        have hkj0 : ∀ k, W.heap.size ≤ k → γ k = none → k ≠ kj := fun k k1 k2 e => by
          subst e
          obtain ⟨m, m1, m2, m3⟩ := some2 γ hfin k
          obtain ⟨kj', ob', t', r1', r2', _, _⟩ := H m m1 m2
          rw [(ev _).1, r1] at r1'
          obtain rfl := ptr_inj r1'
          rw [Gh.set_ne _ _ (Ne.symm m3), k2] at r2'
          cases r2'
        rw [Gh.set_ne _ _ (Ne.symm (hkj0 k0 k01 k02))] at r2
        rw [execOp_put oj hsj a oi.dst _ q1, (ev _).2] at r3
        refine ⟨kj, ob, t, r1, r2, r3, go _ _ (finSet _ _ _ hfin) ?_⟩
        simp only [act, hki]
        rw [execOp_put oi hsi a oj.dst _ q3]
        refine ⟨obi, ri, fun k k3 k4 => ?_⟩
        have hne : k ≠ kj := fun e => by subst e; rw [Gh.set_same] at k4; cases k4
        rw [Gh.set_ne _ _ hne] at k4
        obtain ⟨kj', ob', t', r1', r2', _, hK⟩ := H k k3 k4
        rw [(ev _).1, r1] at r1'
        obtain rfl := ptr_inj r1'
        rw [Gh.set_ne _ _ (Ne.symm hne), r2] at r2'
        simp only [Option.some.injEq, Prod.mk.injEq, Obj.cells.injEq, and_true] at r2'
        obtain ⟨rfl, rfl⟩ := r2'
        rw [(ev _).2] at hK
        rw [← Act.put_comm a _ _ q2, ← Gh.set_comm γ _ _ (Ne.symm hne)]
        exact hK
      · -- lay, simple
        unfold act at H
        rw [hki] at H
        obtain ⟨obi, ri, H⟩ := H
        simp only [act, hkj] at H ⊢
        obtain ⟨u, hu, hu'⟩ := simple_run (P := P) hxj a W
        have hv : ∀ k v, (∀ x : Later W D, calmUpon P x.w v ((execOp (a.put oi.dst (Value.pointer (some { block := k, off := 0 }))).eval oj).run P x.w)) → v = u := fun k v hc => by
          have := hc ⟨W, Kept.refl _ _⟩
          simp only at this
          rw [execOp_put oj hsj a oi.dst _ q1, hu] at this
          exact this.2.symm
        refine ⟨u, fun x => by rw [hu' x.w]; exact ⟨rfl, rfl⟩, go _ _ hfin ?_⟩
        simp only [act, hki]
        rw [execOp_put oi hsi a oj.dst _ q3]
        refine ⟨obi, ri, fun k k3 k4 => ?_⟩
        obtain ⟨v, hc, hK⟩ := H k k3 k4
        obtain rfl := hv k v hc
        rw [← Act.put_comm a _ _ q2]
        exact hK
      · -- fill, lay
        unfold act at H
        rw [hki] at H
        obtain ⟨ki, ob, t, r1, r2, r3, H⟩ := H
        simp only [act, hkj] at H ⊢
        obtain ⟨obj, rj, hK⟩ := H
        have ev := fun u => eval_put (ops := ops) (oi := oj) hki q3 a u
        rw [execOp_put oj hsj a oi.dst _ q1] at rj
        refine ⟨obj, rj, fun k' k1 k2 => go _ _ (finSet _ _ _ hfin) ?_⟩
        have hne : k' ≠ ki := fun e => by subst e; rw [r2] at k2; cases k2
        simp only [act, hki]
        rw [execOp_put oi hsi a oj.dst _ q3, (ev _).1, (ev _).2]
        refine ⟨ki, ob, t, r1, by rw [Gh.set_ne _ _ (Ne.symm hne)]; exact r2, r3, ?_⟩
        have := hK k' k1 (by rw [Gh.set_ne _ _ hne]; exact k2)
        rw [← Act.put_comm a _ _ q2, ← Gh.set_comm γ _ _ hne]
        exact this
      · -- fill, fill
        unfold act at H
        rw [hki] at H
        obtain ⟨ki, ob, t, r1, r2, r3, H⟩ := H
        simp only [act, hkj] at H ⊢
        obtain ⟨kj, obj, tj, s1, s2, s3, hK⟩ := H
        have evi := fun u => eval_put (ops := ops) (oi := oj) hki q3 a u
        have evj := fun u => eval_put (ops := ops) hkj q1 a u
        rw [(evj _).1] at s1
        rw [execOp_put oj hsj a oi.dst _ q1, (evj _).2] at s3
        have hne : kj ≠ ki := fun e => by subst e; rw [Gh.set_same] at s2; cases s2
        rw [Gh.set_ne _ _ hne] at s2
        refine ⟨kj, obj, tj, s1, s2, s3, go _ _ (finSet _ _ _ hfin) ?_⟩
        simp only [act, hki]
        rw [execOp_put oi hsi a oj.dst _ q3, (evi _).1, (evi _).2]
        refine ⟨ki, ob, t, r1, by rw [Gh.set_ne _ _ (Ne.symm hne)]; exact r2, r3, ?_⟩
        rw [(evj _).2] at hK
        rw [← Act.put_comm a _ _ q2, ← Gh.set_comm γ _ _ hne]
        exact hK
      · -- fill, simple
        unfold act at H
        rw [hki] at H
        obtain ⟨ki, ob, t, r1, r2, r3, H⟩ := H
        simp only [act, hkj] at H ⊢
        obtain ⟨v, hc, hK⟩ := H
        have evi := fun u => eval_put (ops := ops) (oi := oj) hki q3 a u
        rw [execOp_put oj hsj a oi.dst _ q1] at hc
        refine ⟨v, hc, go _ _ hfin ?_⟩
        simp only [act, hki]
        rw [execOp_put oi hsi a oj.dst _ q3, (evi _).1, (evi _).2]
        refine ⟨ki, ob, t, r1, r2, r3, ?_⟩
        rw [← Act.put_comm a _ _ q2]
        exact hK

/-! ### The order of the text -/

def walkT (P : Program) (ops : Array Oper) (W : World) (D : List Nat) (Q : Act → Gh → Prop) : List Oper → Act → Gh → Prop
  | [], a, γ => Q a γ
  | o :: rest, a, γ => stepT P ops W D o a γ (walkT P ops W D Q rest)

theorem walkT_nil {Q : Act → Gh → Prop} {a : Act} {γ : Gh} (h : Q a γ) : walkT P ops W D Q [] a γ := h
theorem walkT_step {Q : Act → Gh → Prop} {a : Act} {γ : Gh} {o : Oper} {rest : List Oper}
    (h : ∀ K : Act → Gh → Prop, (∀ a γ, walkT P ops W D Q rest a γ → K a γ) → stepT P ops W D o a γ K) : walkT P ops W D Q (o :: rest) a γ := h _ fun _ _ h => h

/-- Behind the first alloc or fill come allocs and fills alone. -/
def tailB : List Oper → Bool
  | [] => true
  | o :: rest => (match kind o with | .calm => true | _ => bare o && rest.all late) && tailB rest

theorem finSet (γ : Gh) (k : Nat) (x : Obj × Bool) (h : ∃ N, ∀ k, N ≤ k → γ k = none) : ∃ N, ∀ i, N ≤ i → (γ.set k x) i = none :=
  let ⟨N, hN⟩ := h
  ⟨N + k + 1, fun i hi => by rw [Gh.set_ne _ _ (by omega)]; exact hN _ (by omega)⟩

theorem anyT_lex {Q : Act → Gh → Prop} (hs : Region.noSelect ops = true) : ∀ (l : List Oper) (k : Nat) (listed : Array Bool) (a : Act) (γ : Gh), (∃ N, ∀ k, N ≤ k → γ k = none) → (∀ j, l[j]? = ops[k + j]?) →
    (∀ j, j < k → listed.getD j true = true) → Region.lexFrom md ops l.length k listed = true → tailB l = true → walkT P ops W D Q l a γ → anyT P md ops W D Q l.length listed a γ
  | [], _, _, _, _, _, _, _, hB, _, h => ⟨by simpa [Region.lexFrom] using hB, h⟩
  | o :: l, k, listed, a, γ, hfin, hl, hlo, hB, hT, h => by
    have h0 : ops[k]? = some o := by simpa using (hl 0).symm
    simp only [List.length_cons, Region.lexFrom, Bool.and_eq_true] at hB
    obtain ⟨⟨hr, hf⟩, hB'⟩ := hB
    have hlo' : ∀ j, j < k + 1 → (listed.setIfInBounds k true).getD j true = true := fun j hj => by
      by_cases hjk : k = j
      · subst hjk
        by_cases hs : k < listed.size <;> simp [hs]
      · rw [getD_set_ne true hjk]; exact hlo j (by omega)
    have hl' : ∀ j, l[j]? = ops[k + 1 + j]? := fun j => by have := hl (j + 1); simpa [Nat.add_assoc, Nat.add_comm 1 j] using this
    have hT' : tailB l = true := by
      unfold tailB at hT
      rw [Bool.and_eq_true] at hT
      exact hT.2
    have next : ∀ a γ, (∃ N, ∀ k, N ≤ k → γ k = none) → walkT P ops W D Q l a γ → anyT P md ops W D Q l.length (listed.setIfInBounds k true) a γ := fun a γ hfi hw =>
      anyT_lex hs l (k + 1) _ a γ hfi hl' hlo' hB' hT' hw
    have hmem : k ∈ Region.ready md ops listed := by simpa using hr
    unfold walkT at h
    unfold stepT at h
    by_cases hw : Region.wanted o (yielded ops a.tmps) = true
    · rw [if_pos hw] at h
      cases hk : kind o with
      | calm =>
        have hkk := hk
        unfold act at h
        rw [hk] at h
        obtain ⟨v, h1, h2⟩ := h
        exact anyT_calm h0 (Region.noSelect_spec hs) l.length listed a γ (Region.free_spec h0 hf) hmem (.inl ⟨hw, hk, h1⟩) (next _ _ hfin h2)
      | lay =>
        have hT2 : bare o = true ∧ l.all late = true := by
          unfold tailB at hT; rw [hk] at hT; simp only [Bool.and_eq_true] at hT; exact hT.1
        refine anyT_bare h0 hT2.1 (Region.noSelect_spec hs) l.length listed a γ hfin ?_ (Region.free_spec h0 hf) hmem ?_
        · intro j oj hj hjk hun
          have hjk' : k < j := by
            rcases Nat.lt_or_ge k j with h' | h'
            · exact h'
            · have := hlo j (by omega); rw [this] at hun; cases hun
          have := hl (j - k)
          rw [show k + (j - k) = j by omega, hj] at this
          have hmem : oj ∈ l := by
            have e : j - k = (j - k - 1) + 1 := by omega
            rw [e, List.getElem?_cons_succ] at this
            exact List.mem_of_getElem? this
          exact (List.all_eq_true.1 hT2.2) oj hmem
        · unfold act at h ⊢
          rw [hk] at h ⊢
          obtain ⟨ob, h1, h2⟩ := h
          exact ⟨ob, h1, fun k' a1 a2 => next _ _ (finSet _ _ _ hfin) (h2 k' a1 a2)⟩
      | fill p s =>
        have hT2 : bare o = true ∧ l.all late = true := by
          unfold tailB at hT; rw [hk] at hT; simp only [Bool.and_eq_true] at hT; exact hT.1
        refine anyT_bare h0 hT2.1 (Region.noSelect_spec hs) l.length listed a γ hfin ?_ (Region.free_spec h0 hf) hmem ?_
        · intro j oj hj hjk hun
          have hjk' : k < j := by
            rcases Nat.lt_or_ge k j with h' | h'
            · exact h'
            · have := hlo j (by omega); rw [this] at hun; cases hun
          have := hl (j - k)
          rw [show k + (j - k) = j by omega, hj] at this
          have hmem : oj ∈ l := by
            have e : j - k = (j - k - 1) + 1 := by omega
            rw [e, List.getElem?_cons_succ] at this
            exact List.mem_of_getElem? this
          exact (List.all_eq_true.1 hT2.2) oj hmem
        · unfold act at h ⊢
          rw [hk] at h ⊢
          obtain ⟨k', ob, t, h1, h2, h3, h4⟩ := h
          exact ⟨k', ob, t, h1, h2, h3, next _ _ (finSet _ _ _ hfin) h4⟩
    · rw [if_neg hw] at h
      exact anyT_calm h0 (Region.noSelect_spec hs) l.length listed a γ (Region.free_spec h0 hf) hmem (.inr ⟨by simpa using hw, rfl⟩) (next _ _ hfin h)

/-- ONE WALK IN THE ORDER OF THE TEXT SERVES EVERY ORDER of a region that draws. 'γ0': the variables of 'D', as they stand. -/
theorem region_draws {id : Nat} {Q : Exit → Act → World → Prop} {a : Act} {l : List Oper} {γ0 : Gh} (h0 : ∀ k o f, γ0 k = some (o, f) → k ∈ D ∧ W.heap[k]? = some o) (hm : P.follows .mixedOrders = true) (hB : Region.lexB .any l.toArray = true) (hT : tailB l = true)
    (h : walkT P l.toArray W D (fun a' γ => ∀ w', Cls W D γ w' → Q .normal a' w') l a γ0) : (Code.region id l.toArray true).wp P Q a W := by
  simp only [Region.lexB, Bool.and_eq_true] at hB
  have hC : Cls W D γ0 { W with drawn := W.drawn + 1 } := ⟨⟨rfl, rfl, rfl, Nat.le_refl _, fun _ _ _ => rfl⟩, fun k o f h => ⟨.inl (h0 k o f h).1, (h0 k o f h).2⟩⟩
  refine wp_region_any hm (wpAny_of_tame (W := W) (D := D) (Q := fun a' γ => ∀ w', Cls W D γ w' → Q .normal a' w') (fun _ _ w' hw' h => h w' hw') _ _ _ _ _ hC ?_)
  have := anyT_lex (P := P) (W := W) (D := D) (md := .any) hB.1 l 0 (Array.replicate l.toArray.size false) a γ0 hC.fin (by simp) (fun j hj => absurd hj (by omega)) (by simpa using hB.2) hT h
  simpa using this

theorem step_wp {o : Oper} {a : Act} {γ : Gh} {K : Act → Gh → Prop} {K' : Act → World → Prop} {Q' : Exit → Act → World → Prop} {w : World} (hw : Cls W D γ w)
    (h : ∀ a γ w', Cls W D γ w' → K a γ → K' a w') (hh : stepT P ops W D o a γ K) : if Region.wanted o (yielded ops a.tmps) then o.wp P a w K' Q' else K' (a.put o.dst undef) w := by
  unfold stepT at hh
  split
  · rename_i h1; rw [if_pos h1] at hh; exact wp_of_act hw h hh
  · rename_i h1; rw [if_neg h1] at hh; exact h _ _ _ hw hh

theorem list_plain {Q : Act → Gh → Prop} {Q' : Exit → Act → World → Prop} (hQ : ∀ a γ w, Cls W D γ w → Q a γ → Q' .normal a w) : ∀ (l : List Oper) (a : Act) (γ : Gh) (w : World), Cls W D γ w →
    walkT P ops W D Q l a γ → wpList P ops Q' l a w
  | [], _, _, _, hw, h => hQ _ _ _ hw h
  | o :: rest, a, γ, w, hw, h => by
    have := step_wp (K' := wpList P ops Q' rest) (Q' := Q') hw (fun a' γ' w' hw' h' => list_plain hQ rest a' γ' w' hw' h') h
    unfold wpList
    split
    · rename_i h1; rw [if_pos h1] at this; exact .inl this
    · rename_i h1; rw [if_neg h1] at this; exact this

/-- The same for a region that draws nothing. -/
theorem region_plain {id : Nat} {Q : Exit → Act → World → Prop} {a : Act} {l : List Oper} {γ0 : Gh} (h0 : ∀ k o f, γ0 k = some (o, f) → k ∈ D ∧ W.heap[k]? = some o)
    (h : walkT P l.toArray W D (fun a' γ => ∀ w', Cls W D γ w' → Q .normal a' w') l a γ0) : (Code.region id l.toArray false).wp P Q a W := by
  refine wp_region ?_
  have e := wpOps_eq_wpList (P := P) (ops := l.toArray) (Q := Q) l 0 (fun j => by simp)
  have : List.range l.toArray.size = List.range' 0 l.length := by simp [List.range_eq_range']
  rw [this, e]
  exact list_plain (fun a' γ w' hw' h => h w' hw') l a γ0 W ⟨Kept.refl _ _, fun k o f h => ⟨.inl (h0 k o f h).1, (h0 k o f h).2⟩⟩ h

/-- What a later world holds. -/
theorem Later.at {w : World} {D : List Nat} {k : Nat} {o : Obj} (h : w.heap[k]? = some o) (hk : k ∉ D) (x : Later w D) : x.w.heap[k]? = some o := (x.h.block k (lt_of_some h) hk).trans h
theorem Later.at0 {w : World} {k : Nat} {o : Obj} (h : w.heap[k]? = some o) (x : Later w []) : x.w.heap[k]? = some o := Later.at h List.not_mem_nil x
theorem Cls.at {w w' : World} {D : List Nat} {γ : Gh} {k : Nat} {o : Obj} (hc : Cls w D γ w') (h : w.heap[k]? = some o) (hk : k ∉ D) : w'.heap[k]? = some o := (hc.kept.block k (lt_of_some h) hk).trans h
theorem Cls.at0 {w w' : World} {γ : Gh} {k : Nat} {o : Obj} (hc : Cls w [] γ w') (h : w.heap[k]? = some o) : w'.heap[k]? = some o := hc.at h List.not_mem_nil
theorem Cls.below {w w' : World} {γ : Gh} (hc : Cls w [] γ w') : Below w.heap.size w w' := hc.kept.below (Nat.le_refl _) (fun d h => by cases h)
theorem not_mem1 {k d : Nat} (h : k ≠ d) : k ∉ [d] := fun hm => h (List.mem_singleton.1 hm)
theorem cell_of_block {w : World} {k j : Nat} {cs : Array Value} {t : TypeId} {v : Value} {fz : Nat × Nat} (h : w.heap[k]? = some (.cells cs t fz)) (hv : cs[j]? = some v) : w.cell? ⟨k, j, none⟩ = some v := by
  unfold World.cell?
  simp [h, hv]
theorem free_of_block {w : World} {k j : Nat} {cs : Array Value} {t : TypeId} (h : w.heap[k]? = some (.cells cs t (0, 0))) : w.frozen? ⟨k, j, none⟩ = false := by
  unfold World.frozen?
  simp [h]

theorem nil_ok {W : World} : ∀ k o f, Gh.nil k = some (o, f) → k ∈ ([] : List Nat) ∧ W.heap[k]? = some o := fun _ _ _ h => by cases h
theorem one_ok {W : World} {d : Nat} {ob : Obj} (hd : W.heap[d]? = some ob) : ∀ k o f, (Gh.nil.set d (ob, false)) k = some (o, f) → k ∈ [d] ∧ W.heap[k]? = some o := fun k o f h => by
  by_cases e : k = d
  · subst e; rw [Gh.set_same] at h; cases h; exact ⟨List.mem_singleton.2 rfl, hd⟩
  · rw [Gh.set_ne _ _ e] at h; cases h
theorem plain_hid {id : Nat} {Q : Exit → Act → World → Prop} {a : Act} {l : List Oper} {W0 : World}
    (h : ∀ W, W = W0 → ∀ ops : Array Oper, ops = l.toArray → walkT P ops W [] (fun a' γ => ∀ w', Cls W [] γ w' → Q .normal a' w') l a Gh.nil) : (Code.region id l.toArray false).wp P Q a W0 := region_plain nil_ok (h W0 rfl _ rfl)
theorem draws_hid {id : Nat} {Q : Exit → Act → World → Prop} {a : Act} {l : List Oper} {W0 : World} (hm : P.follows .mixedOrders = true) (hB : Region.lexB .any l.toArray = true) (hT : tailB l = true)
    (h : ∀ W, W = W0 → ∀ ops : Array Oper, ops = l.toArray → walkT P ops W [] (fun a' γ => ∀ w', Cls W [] γ w' → Q .normal a' w') l a Gh.nil) : (Code.region id l.toArray true).wp P Q a W0 := region_draws nil_ok hm hB hT (h W0 rfl _ rfl)
/-- One variable that was there, 'd', is filled in the region. -/
theorem plain_var {id : Nat} {Q : Exit → Act → World → Prop} {a : Act} {l : List Oper} {W0 : World} {d : Nat} {ob : Obj} (hd : W0.heap[d]? = some ob)
    (h : ∀ W, W = W0 → ∀ ops : Array Oper, ops = l.toArray → walkT P ops W [d] (fun a' γ => ∀ w', Cls W [d] γ w' → Q .normal a' w') l a (Gh.nil.set d (ob, false))) : (Code.region id l.toArray false).wp P Q a W0 := region_plain (one_ok hd) (h W0 rfl _ rfl)
theorem draws_var {id : Nat} {Q : Exit → Act → World → Prop} {a : Act} {l : List Oper} {W0 : World} {d : Nat} {ob : Obj} (hd : W0.heap[d]? = some ob) (hm : P.follows .mixedOrders = true) (hB : Region.lexB .any l.toArray = true) (hT : tailB l = true)
    (h : ∀ W, W = W0 → ∀ ops : Array Oper, ops = l.toArray → walkT P ops W [d] (fun a' γ => ∀ w', Cls W [d] γ w' → Q .normal a' w') l a (Gh.nil.set d (ob, false))) : (Code.region id l.toArray true).wp P Q a W0 := region_draws (one_ok hd) hm hB hT (h W0 rfl _ rfl)
theorem heap_alloc_is {w : World} {o : Obj} {k : Nat} (h : k = w.heap.size) : (w.alloc o).heap[k]? = some o := by subst h; exact heap_alloc_at w o
theorem heap_alloc_lt {w : World} {o x : Obj} {k : Nat} (h : w.heap[k]? = some x) : (w.alloc o).heap[k]? = some x := by rw [heap_alloc_old w o k (lt_of_some h)]; exact h

/-- A variable of the region's own is filled. -/
theorem walkT_fill {Q : Act → Gh → Prop} {a : Act} {γ : Gh} {o : Oper} {rest : List Oper} {ty : TypeId} {p s : Operand} {k : Nat} {ob : Array Value} {t : TypeId} {v : Value}
    (hop : o.op = .store ty p s) (hd : o.dst = none) (hg : o.guard = none) (hp : a.eval p = .pointer (some ⟨k, 0, none⟩)) (hγ : γ k = some (.cells ob t, false)) (hv : a.eval s = v)
    (hsz : (P.info? ty).map (·.size) = some v.cells.size) (hob : ob.size = v.cells.size) (h1 : v.cells.toList.all (·.oneCell') = true)
    (h : walkT P ops W D Q rest a (γ.set k (.cells v.cells t, true))) : walkT P ops W D Q (o :: rest) a γ := by
  unfold walkT
  unfold stepT
  have hw : Region.wanted o (yielded ops a.tmps) = true := by unfold Region.wanted; rw [hg]
  rw [if_pos hw]
  unfold act
  have hk : kind o = .fill p s := by unfold kind; rw [hop]
  rw [hk]
  refine ⟨k, ob, t, hp, hγ, fun x hx => ?_, ?_⟩
  · rw [hv]
    have := run_storeCells_from (P := P) k t v.cells.toList 0 ob x.w hx (by simp; omega) (fun u hu => List.all_eq_true.1 h1 u hu)
    unfold execOp
    rw [hop]
    cases hq : P.info? ty with
    | none => simp [hq] at hsz
    | some i =>
      have hs : v.cells.size = i.size := by simp [hq] at hsz; omega
      simp [Instr.storeAt, Instr.sureAddr, hp, hv, storeVar, sizeOf, typeInfo, hq, hs, this]
  · rw [hd, hv]; exact h

theorem wp_at {c : Code} {Q : Exit → Act → World → Prop} {a : Act} {w : World} (h : ∀ W2, W2 = w → c.wp P Q a W2) : c.wp P Q a w := h w rfl
theorem rounds_at {c : Code} {Q : Exit → Act → World → Prop} {n : Nat} {a : Act} {w : World} (h : ∀ W2, W2 = w → Code.rounds P c Q n a W2) : Code.rounds P c Q n a w := h w rfl
theorem ret_at {fn : Func} {R : Ending → World → Prop} {e : Exit} {a : Act} {w : World} (h : ∀ W2, W2 = w → bodyPost P fn R e a W2) : bodyPost P fn R e a w := h w rfl
theorem set_block {w : World} {b off : Nat} {cs : Array Value} {t : TypeId} {v : Value} (h : w.heap[b]? = some (.cells cs t)) : (w.setCell ⟨b, off, none⟩ v).heap[b]? = some (.cells (cs.setIfInBounds off v) t) := by
  rw [setCell_eq_setRow w b off cs t (0, 0) v h]; exact setRow_heap w b cs _ t _ h
theorem set_other {w : World} {b off k : Nat} {v : Value} {o : Obj} (h : w.heap[k]? = some o) (hk : k ≠ b) : (w.setCell ⟨b, off, none⟩ v).heap[k]? = some o := by
  rw [Below.heap_setCell w ⟨b, off, none⟩ v k hk]; exact h
end
attribute [go_sem] act kind stepT calmUpon
attribute [irreducible] walkT stepT
end Go.Proofs.Ytgmlaimlcccmhaa.Tame
