/-
  THE PLAIN LAW OF TAINT: a link's flag by what it is unpacked to is its flag by its halves; in the order of Mids' ranks the halves come first. CONDITIONS: the hierarchy may be.
-/
import Derived.Test.YtgmlaimlcccmhaaNOrder
import Derived.Test.YtgmlaimlcccmhaaNRefLink
namespace Go.Proofs.Ytgmlaimlcccmhaa
open Go.RowKit Go.Proofs.Ytgmlaimlcccmhaa.Tame
set_option maxHeartbeats 400000

/-- What a link is unpacked to, but its first vertex, to this depth. -/
def unL (ls : Ls) (nl : Nat) : Nat → Nat → List Int
  | 0, i => [(ls i).b]
  | d + 1, i => if (ls i).m = -1 then [(ls i).b] else unL ls nl d (lnkR ls (ls i).a (ls i).m nl).toNat ++ unL ls nl d (lnkR ls (ls i).m (ls i).b nl).toNat
def tnF (cl : Fl) (ls : Ls) (nl d i : Nat) : Bool := cl (ls i).a.toNat || (unL ls nl d i).any (fun v => cl v.toNat)
/-- The two halves of a link that is put together. -/
structure Halves (rk : Fn) (nl : Nat) (ls : Ls) (i ka kb : Nat) : Prop where
  ha : ka < nl
  hb : kb < nl
  la : IsL (ls ka) (ls i).a (ls i).m
  lb : IsL (ls kb) (ls i).m (ls i).b
  ra : lnkR ls (ls i).a (ls i).m nl = ka
  rb : lnkR ls (ls i).m (ls i).b nl = kb
  ka' : midOf rk (ls ka) < midOf rk (ls i)
  kb' : midOf rk (ls kb) < midOf rk (ls i)
theorem vtx_nat {nr : Nat} {v : Int} (h : Vtx nr v) : v.toNat < nr := by unfold Vtx at h; omega
section
variable {nr : Nat} {rk : Fn} {nl : Nat} {ls : Ls} (hM : MayP nr rk nl ls)
include hM
theorem MayP.rk0 {v : Int} (hv : Vtx nr v) : 0 ≤ rk v.toNat ∧ rk v.toNat < (nr : Int) := by
  have := hM.1 v.toNat (vtx_nat hv)
  exact ⟨this.1, this.2.1⟩
theorem MayP.jn {i : Nat} (hi : i < nl) (hm : (ls i).m ≠ -1) : JnP nr rk nl ls (ls i) := by
  apply Classical.byContradiction
  intro hn
  exact hM.2.2 ⟨i, hi, hm, hn⟩
omit hM in
theorem key_low {i : Nat} {r : Int} (h1 : (ls i).m ≠ -1 → rk (ls i).m.toNat < r) (h0 : 0 ≤ r) : midOf rk (ls i) < r := by
  unfold midOf
  split
  · omega
  · rename_i hm; exact h1 hm
theorem MayP.halves {i : Nat} (hi : i < nl) (hm : (ls i).m ≠ -1) : ∃ ka kb, Halves rk nl ls i ka kb := by
  obtain ⟨hv, h1, h2, ka, kb, ha, hb, la, lb, _⟩ := hM.jn hi hm
  have hr := hM.2.1.rise
  have hk : midOf rk (ls i) = rk (ls i).m.toNat := by unfold midOf; rw [if_neg hm]
  have h0 := (hM.rk0 hv).1
  refine ⟨ka, kb, ha, hb, la, lb, lnkR_at hr ha la, lnkR_at hr hb lb, ?_, ?_⟩
  · rw [hk]
    refine key_low (fun hn => ?_) h0
    have := (hM.jn ha hn).2.2.1
    rwa [la.2] at this
  · rw [hk]
    refine key_low (fun hn => ?_) h0
    have := (hM.jn hb hn).2.1
    rwa [lb.1] at this
theorem MayP.key_lt {i : Nat} (hi : i < nl) (h : 0 < nr) : midOf rk (ls i) < (nr : Int) := by
  refine key_low (fun hm => ?_) (by omega)
  exact (hM.rk0 (hM.jn hi hm).1).2
theorem MayP.key_nn {i : Nat} (hi : i < nl) (hm : (ls i).m ≠ -1) : 0 ≤ midOf rk (ls i) := by
  unfold midOf
  rw [if_neg hm]
  exact (hM.rk0 (hM.jn hi hm).1).1
omit hM in
theorem unL_leaf {i d : Nat} (h : (ls i).m = -1) : unL ls nl d i = [(ls i).b] := by
  cases d with
  | zero => rfl
  | succ d => unfold unL; rw [if_pos h]
omit hM in
theorem unL_join {i ka kb d : Nat} (hm : (ls i).m ≠ -1) (H : Halves rk nl ls i ka kb) : unL ls nl (d + 1) i = unL ls nl d ka ++ unL ls nl d kb := by
  show (if (ls i).m = -1 then _ else _) = _
  rw [if_neg hm, H.ra, H.rb, Int.toNat_natCast, Int.toNat_natCast]
/-- Deeper than the key, the depth makes no odds. -/
theorem MayP.stable : ∀ (d e i : Nat), i < nl → midOf rk (ls i) < (d : Int) → midOf rk (ls i) < (e : Int) → unL ls nl d i = unL ls nl e i := by
  intro d
  induction d with
  | zero =>
    intro e i hi h1 _
    have hm : (ls i).m = -1 := by
      apply Classical.byContradiction
      intro hn
      have := hM.key_nn hi hn
      omega
    rw [unL_leaf hm, unL_leaf hm]
  | succ d ih =>
    intro e i hi h1 h2
    by_cases hm : (ls i).m = -1
    · rw [unL_leaf hm, unL_leaf hm]
    · have h0 := hM.key_nn hi hm
      obtain ⟨e, rfl⟩ : ∃ x, e = x + 1 := ⟨e - 1, by omega⟩
      obtain ⟨ka, kb, H⟩ := hM.halves hi hm
      have := H.ka'
      have := H.kb'
      rw [unL_join hm H, unL_join hm H, ih e ka H.ha (by omega) (by omega), ih e kb H.hb (by omega) (by omega)]
theorem MayP.last : ∀ (d i : Nat), i < nl → midOf rk (ls i) < (d : Int) → (ls i).b ∈ unL ls nl d i := by
  intro d
  induction d with
  | zero => intro i hi _; exact List.mem_singleton.2 rfl
  | succ d ih =>
    intro i hi h1
    by_cases hm : (ls i).m = -1
    · rw [unL_leaf hm]; exact List.mem_singleton.2 rfl
    · obtain ⟨ka, kb, H⟩ := hM.halves hi hm
      have := H.kb'
      rw [unL_join hm H, List.mem_append]
      right
      have := ih kb H.hb (by omega)
      rwa [H.lb.2] at this
theorem MayP.pos {i : Nat} (hi : i < nl) : 0 < nr := by
  have := (hM.2.1 i hi).1
  unfold Vtx at this
  omega
theorem MayP.taint_join {i ka kb : Nat} (cl : Fl) (hi : i < nl) (hm : (ls i).m ≠ -1) (H : Halves rk nl ls i ka kb) : tnF cl ls nl nr i = (cl (ls i).a.toNat || cl (ls i).b.toNat || (tnF cl ls nl nr ka || tnF cl ls nl nr kb)) := by
  have hp := hM.pos hi
  have hk := hM.key_lt hi hp
  obtain ⟨n, rfl⟩ : ∃ n, nr = n + 1 := ⟨nr - 1, by omega⟩
  have h1 := H.ka'
  have h2 := H.kb'
  have ea : unL ls nl (n + 1) ka = unL ls nl n ka := hM.stable _ _ ka H.ha (by omega) (by omega)
  have eb : unL ls nl (n + 1) kb = unL ls nl n kb := hM.stable _ _ kb H.hb (by omega) (by omega)
  have e0 : unL ls nl (n + 1) i = unL ls nl n ka ++ unL ls nl n kb := unL_join hm H
  have ma := hM.last n ka H.ha (by omega)
  have mb := hM.last n kb H.hb (by omega)
  rw [H.la.2] at ma
  rw [H.lb.2] at mb
  unfold tnF
  rw [ea, eb, e0, List.any_append, H.la.1, H.lb.1]
  have ia : cl (ls i).m.toNat = true → (unL ls nl n ka).any (fun v => cl v.toNat) = true := fun h => List.any_eq_true.2 ⟨_, ma, h⟩
  have ib : cl (ls i).b.toNat = true → (unL ls nl n kb).any (fun v => cl v.toNat) = true := fun h => List.any_eq_true.2 ⟨_, mb, h⟩
  generalize (unL ls nl n ka).any (fun v => cl v.toNat) = x at *
  generalize (unL ls nl n kb).any (fun v => cl v.toNat) = y at *
  generalize cl (ls i).m.toNat = p at *
  generalize cl (ls i).b.toNat = q at *
  generalize cl (ls i).a.toNat = r at *
  cases x <;> cases y <;> cases p <;> cases q <;> cases r <;> simp_all
end
/-- A flag by the flags of the halves. -/
theorem taint_leaf {ls : Ls} {nl i : Nat} (cl : Fl) (nr : Nat) (hm : (ls i).m = -1) : tnF cl ls nl nr i = (cl (ls i).a.toNat || cl (ls i).b.toNat) := by
  unfold tnF
  rw [unL_leaf hm]
  simp
/-- In an order that rises, what has a lower key stands before. -/
theorem before_of_key {nl t k : Nat} {h : Fn} {key : Int → Int} (hs : Sw 0 nl idF h) (ha : Asc key 0 nl h) (hk : k < nl) (ht : t < nl) (hlt : key (k : Int) < key (h t)) : ∃ s, s < t ∧ h s = (k : Int) := by
  have hp := hs.perm nl (Nat.le_refl _)
  have hmem : (k : Int) ∈ (List.range nl).map h := hp.mem_iff.2 (List.mem_map.2 ⟨k, List.mem_range.2 hk, rfl⟩)
  obtain ⟨s, hs1, hs2⟩ := List.mem_map.1 hmem
  have hs1 := List.mem_range.1 hs1
  refine ⟨s, ?_, hs2⟩
  rcases Nat.lt_trichotomy s t with c | c | c
  · exact c
  · subst c; rw [hs2] at hlt; omega
  · have := ha t s (Nat.zero_le _) c hs1
    rw [hs2] at this
    omega
theorem order_in {nl t : Nat} {h : Fn} (hs : Sw 0 nl idF h) (ht : t < nl) : ∃ k : Nat, k < nl ∧ h t = (k : Int) := by
  obtain ⟨y, _, hy, e⟩ := hs.from t ⟨Nat.zero_le _, ht⟩
  exact ⟨y, hy, e⟩
theorem order_one {nl s t : Nat} {h : Fn} (hs : Sw 0 nl idF h) (hs1 : s < nl) (ht : t < nl) (e : h s = h t) : s = t := by
  have hp := hs.perm nl (Nat.le_refl _)
  have hn : ((List.range nl).map idF).Nodup := by
    unfold List.Nodup
    rw [List.pairwise_map]
    exact List.Pairwise.imp (fun {a b : Nat} (hab : a ≠ b) (he : idF a = idF b) => hab (by have h2 : (a : Int) = (b : Int) := he; omega)) List.nodup_range
  have hn2 : ((List.range nl).map h).Nodup := hp.nodup_iff.2 hn
  have e1 : ((List.range nl).map h)[s]? = ((List.range nl).map h)[t]? := by simp [hs1, ht, e]
  have := (List.getElem?_inj (i := s) (j := t) (by simpa using hs1) hn2).1 e1
  exact this
/-- What stands in the flags behind t rounds. -/
def DoneU (T : Fl) (t : Nat) (h : Fn) (U : Fl) : Prop := ∀ s, s < t → U (h s).toNat = T (h s).toNat
theorem DoneU.next {T U : Fl} {t k nl : Nat} {h : Fn} (hd : DoneU T t h U) (hs : Sw 0 nl idF h) (ht : t < nl) (e : h t = (k : Int)) {U' : Fl} (h1 : U' k = T k) (h2 : ∀ x, x ≠ k → U' x = U x) : DoneU T (t + 1) h U' := by
  intro s hs'
  by_cases c : s = t
  · subst c; rw [e, Int.toNat_natCast]; exact h1
  · obtain ⟨y, _, ey⟩ := order_in hs (t := s) (by omega)
    have hne : y ≠ k := fun e' => c (order_one hs (by omega) ht (by rw [ey, e, e']))
    have := hd s (by omega)
    rw [ey, Int.toNat_natCast] at this ⊢
    rw [h2 y hne]; exact this
theorem DoneU.whole {T U : Fl} {nl : Nat} {h : Fn} (hd : DoneU T nl h U) (hs : Sw 0 nl idF h) : ∀ k, k < nl → U k = T k := by
  intro k hk
  have hp := hs.perm nl (Nat.le_refl _)
  have hmem : (k : Int) ∈ (List.range nl).map h := hp.mem_iff.2 (List.mem_map.2 ⟨k, List.mem_range.2 hk, rfl⟩)
  obtain ⟨s, hs1, hs2⟩ := List.mem_map.1 hmem
  have := hd s (List.mem_range.1 hs1)
  rw [hs2, Int.toNat_natCast] at this
  exact this
end Go.Proofs.Ytgmlaimlcccmhaa
