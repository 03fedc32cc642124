/-
  THE MATCHING OF TWO LISTS OF POINTS, PLAIN: each point of a list that is another's in another order finds one of the other's that is not used yet. CONDITIONS: stated.
-/
import Derived.Test.YtnpilmjpinmgfaaHRow
namespace Go.Proofs.Ytnpilmjpinmgfaa

/-- How many numbers below n have it. -/
def cnt (n : Nat) (p : Nat → Bool) : Nat := (List.range n).countP p
theorem cnt_succ (n : Nat) (p : Nat → Bool) : cnt (n + 1) p = cnt n p + if p n = true then 1 else 0 := by
  unfold cnt
  rw [List.range_succ, List.countP_append]
  simp [List.countP_cons]
theorem cnt_mono {i n : Nat} (p : Nat → Bool) (h : i ≤ n) : cnt i p ≤ cnt n p := by
  induction n with
  | zero => have : i = 0 := by omega
            rw [this]; exact Nat.le_refl _
  | succ n ih =>
    by_cases e : i = n + 1
    · rw [e]; exact Nat.le_refl _
    · rw [cnt_succ]
      exact Nat.le_trans (ih (by omega)) (Nat.le_add_right _ _)
theorem cnt_congr {n : Nat} {p q : Nat → Bool} (h : ∀ m, m < n → p m = q m) : cnt n p = cnt n q := by
  induction n with
  | zero => rfl
  | succ n ih => rw [cnt_succ, cnt_succ, ih (fun m hm => h m (by omega)), h n (by omega)]
theorem cnt_set {n m0 : Nat} {p q : Nat → Bool} (h0 : m0 < n) (hp : p m0 = false) (hq : q m0 = true) (h : ∀ m, m ≠ m0 → q m = p m) : cnt n q = cnt n p + 1 := by
  induction n with
  | zero => omega
  | succ n ih =>
    rw [cnt_succ, cnt_succ]
    by_cases e : m0 = n
    · subst e
      rw [hp, hq, cnt_congr (p := q) (q := p) (fun m hm => h m (by omega))]
      simp
    · rw [ih (by omega), h n (by omega)]
      omega
theorem cnt_perm {n : Nat} {f h : Fn} (hp : ((List.range n).map h).Perm ((List.range n).map f)) (v : Int × Int) : cnt n (fun x => decide (h x = v)) = cnt n (fun x => decide (f x = v)) := by
  have := hp.countP_eq (fun u => decide (u = v))
  rw [List.countP_map, List.countP_map] at this
  exact this

/-- After i points: as many of each are used as there were. -/
def Matched (n i : Nat) (f h : Fn) (U : Nat → Bool) : Prop := ∀ v, cnt n (fun m => U m && decide (f m = v)) = cnt i (fun x => decide (h x = v))
theorem Matched.start (n : Nat) (f h : Fn) : Matched n 0 f h (fun _ => false) := fun v => by
  have : cnt n (fun m => false && decide (f m = v)) = cnt n (fun _ => false) := cnt_congr (fun _ _ => rfl)
  rw [this]
  unfold cnt
  simp
/-- One that is not used yet and is the point is there. -/
theorem Matched.finds {n i : Nat} {f h : Fn} {U : Nat → Bool} (hm : Matched n i f h U) (hp : ((List.range n).map h).Perm ((List.range n).map f)) (hi : i < n) (hno : ∀ m, m < n → ¬ (U m = false ∧ f m = h i)) : False := by
  have e1 := hm (h i)
  have e2 := cnt_perm hp (h i)
  have e3 : cnt n (fun m => U m && decide (f m = h i)) = cnt n (fun m => decide (f m = h i)) := cnt_congr (fun m hm' => by
    cases hU : U m
    · have : ¬ f m = h i := fun e => hno m hm' ⟨hU, e⟩
      simp [this]
    · simp)
  have e4 := cnt_mono (fun x => decide (h x = h i)) (show i + 1 ≤ n from hi)
  rw [cnt_succ] at e4
  simp only [decide_true, if_true] at e4
  omega
theorem Matched.next {n i m0 : Nat} {f h : Fn} {U : Nat → Bool} (hm : Matched n i f h U) (h0 : m0 < n) (hU : U m0 = false) (he : f m0 = h i) : Matched n (i + 1) f h (fun m => if m = m0 then true else U m) := fun v => by
  rw [cnt_succ, ← hm v]
  by_cases e : h i = v
  · rw [if_pos (by simp [e])]
    exact cnt_set h0 (by simp [hU]) (by simp [he, e]) (fun m hm' => by simp [hm'])
  · rw [if_neg (by simp [e])]
    refine cnt_congr (fun m _ => ?_)
    by_cases e2 : m = m0
    · subst e2
      have : ¬ f m = v := fun e3 => e (he ▸ e3)
      simp [this]
    · simp [e2]
end Go.Proofs.Ytnpilmjpinmgfaa
