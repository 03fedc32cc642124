/-
  A HIERARCHY IN MEMORY: ranks, links, flags; what is asked of one; the test of a vertex. CONDITIONS: stated.
-/
import Derived.Test.YtgmlaimlcccmhaaIKey
import Derived.Test.YtgmlaimlcccmhaaKit
namespace Go.Proofs.Ytgmlaimlcccmhaa
open Go.RowKit Go.Proofs.Ytgmlaimlcccmhaa.Tame
set_option maxHeartbeats 400000

structure Lk where
  a : Int
  b : Int
  w : Int
  m : Int
abbrev Ls := Nat → Lk
abbrev Fl := Nat → Bool
/-- A slice of numbers that came in: nil or of no length, or numbers from a place on. -/
def IntsAt (w : World) (p : Option Addr) (n : Nat) (f : Fn) : Prop := 0 < n → ∃ b off, p = some ⟨b, off, none⟩ ∧ ∀ i, i < n → w.cell? ⟨b, off + i, none⟩ = some (.int .i64 (f i))
def BoolsAt (w : World) (p : Option Addr) (n : Nat) (f : Fl) : Prop := 0 < n → ∃ b off, p = some ⟨b, off, none⟩ ∧ ∀ i, i < n → w.cell? ⟨b, off + i, none⟩ = some (.bool (f i))
def LkIn (w : World) (b o : Nat) (x : Lk) : Prop := w.cell? ⟨b, o, none⟩ = some (.int .i64 x.a) ∧ w.cell? ⟨b, o + 1, none⟩ = some (.int .i64 x.b) ∧ w.cell? ⟨b, o + 2, none⟩ = some (.int .i64 x.w) ∧ w.cell? ⟨b, o + 3, none⟩ = some (.int .i64 x.m)
def LinksAt (w : World) (p : Option Addr) (n : Nat) (f : Ls) : Prop := 0 < n → ∃ b off, p = some ⟨b, off, none⟩ ∧ ∀ i, i < n → LkIn w b (off + i * 4) (f i)
theorem cell_later {w w' : World} {p : Addr} {v : Value} (hb : Below w.heap.size w w') (h : w.cell? p = some v) : w'.cell? p = some v := (hb.cell (World.block_lt_of_cell? w _ h)).trans h
theorem IntsAt.below {w w' : World} {p : Option Addr} {n : Nat} {f : Fn} (h : IntsAt w p n f) (hb : Below w.heap.size w w') : IntsAt w' p n f := fun h0 => by
  obtain ⟨b, off, e, hc⟩ := h h0
  exact ⟨b, off, e, fun i hi => cell_later hb (hc i hi)⟩
theorem BoolsAt.below {w w' : World} {p : Option Addr} {n : Nat} {f : Fl} (h : BoolsAt w p n f) (hb : Below w.heap.size w w') : BoolsAt w' p n f := fun h0 => by
  obtain ⟨b, off, e, hc⟩ := h h0
  exact ⟨b, off, e, fun i hi => cell_later hb (hc i hi)⟩
theorem LkIn.below {w w' : World} {b o : Nat} {x : Lk} (h : LkIn w b o x) (hb : Below w.heap.size w w') : LkIn w' b o x := ⟨cell_later hb h.1, cell_later hb h.2.1, cell_later hb h.2.2.1, cell_later hb h.2.2.2⟩
theorem LinksAt.below {w w' : World} {p : Option Addr} {n : Nat} {f : Ls} (h : LinksAt w p n f) (hb : Below w.heap.size w w') : LinksAt w' p n f := fun h0 => by
  obtain ⟨b, off, e, hc⟩ := h h0
  exact ⟨b, off, e, fun i hi => (hc i hi).below hb⟩
/-- A hierarchy in memory. -/
structure HAt (w : World) (pr : Option Addr) (nr : Nat) (rk : Fn) (pl : Option Addr) (nl : Nat) (ls : Ls) : Prop where
  r : IntsAt w pr nr rk
  l : LinksAt w pl nl ls
theorem HAt.below {w w' : World} {pr : Option Addr} {nr : Nat} {rk : Fn} {pl : Option Addr} {nl : Nat} {ls : Ls} (h : HAt w pr nr rk pl nl ls) (hb : Below w.heap.size w w') : HAt w' pr nr rk pl nl ls := ⟨h.r.below hb, h.l.below hb⟩
abbrev HV (pr : Option Addr) (nr cr : Nat) (pl : Option Addr) (nl cl : Nat) : Value := .agg #[.slice pr nr cr, .slice pl nl cl]
noncomputable def bOf (P : Prop) : Bool := @decide P (Classical.propDecidable P)
theorem bOf_yes {P : Prop} (h : P) : bOf P = true := by unfold bOf; simp [h]
theorem bOf_no {P : Prop} (h : ¬ P) : bOf P = false := by unfold bOf; simp [h]
theorem bOf_iff {P Q : Prop} (h : P ↔ Q) : bOf P = bOf Q := by rw [propext h]
theorem bOf_eq {P : Prop} {v : Bool} (h : v = true ↔ P) : bOf P = v := by
  cases v
  · exact bOf_no (fun hp => by cases h.2 hp)
  · exact bOf_yes (h.1 rfl)
theorem of_bOf {P : Prop} (h : bOf P = true) : P := by
  apply Classical.byContradiction
  intro hn
  rw [bOf_no hn] at h; cases h
theorem not_bOf {P : Prop} (h : bOf P = false) : ¬ P := fun hp => by rw [bOf_yes hp] at h; cases h

def Vtx (nr : Nat) (v : Int) : Prop := 0 ≤ v ∧ v < (nr : Int)
theorem vertex_any (pr : Option Addr) (nr cr : Nat) (pl : Option Addr) (nl cl : Nat) (v : Int) (w : World) :
    Calls Try.prog 26 #[HV pr nr cr pl nl cl, .int .i64 v] w fun e w' => e = .returned (.bool (bOf (Vtx nr v))) ∧ Below w.heap.size w w' := by
  by_cases h1 : 0 ≤ v
  · by_cases h2 : v < (nr : Int)
    · rw [bOf_yes (show Vtx nr v from ⟨h1, h2⟩)]
      go_enter Try.func26, Try.ntmps26
      go_wp2
      go_ret
      exact ⟨rfl, by go_grown⟩
    · rw [bOf_no (fun h : Vtx nr v => h2 h.2)]
      go_enter Try.func26, Try.ntmps26
      go_wp2
      go_ret
      exact ⟨rfl, by go_grown⟩
  · rw [bOf_no (fun h : Vtx nr v => h1 h.1)]
    go_enter Try.func26, Try.ntmps26
    go_wp2
    go_ret
    exact ⟨rfl, by go_grown⟩
theorem small_any (pr : Option Addr) (nr cr : Nat) (pl : Option Addr) (nl cl : Nat) (w : World) (hn : nr ≤ 9223372036854775807) (hl : nl ≤ 9223372036854775807) :
    Calls Try.prog 4 #[HV pr nr cr pl nl cl] w fun e w' => e = .returned (.bool (bOf (nr ≤ 40 ∧ nl ≤ 400))) ∧ Below w.heap.size w w' := by
  by_cases h1 : nr ≤ 40
  · by_cases h2 : nl ≤ 400
    · rw [bOf_yes (show nr ≤ 40 ∧ nl ≤ 400 from ⟨h1, h2⟩)]
      have hd : decide ((nl : Int) ≤ 400) = true := decide_eq_true (by omega)
      go_enter Try.func4, Try.ntmps4
      go_wp2
      go_ret
      exact ⟨rfl, by go_grown⟩
    · rw [bOf_no (fun h : nr ≤ 40 ∧ nl ≤ 400 => h2 h.2)]
      have hd : decide ((nl : Int) ≤ 400) = false := decide_eq_false (by omega)
      go_enter Try.func4, Try.ntmps4
      go_wp2
      go_ret
      exact ⟨rfl, by go_grown⟩
  · rw [bOf_no (fun h : nr ≤ 40 ∧ nl ≤ 400 => h1 h.1)]
    go_enter Try.func4, Try.ntmps4
    go_wp2
    go_ret
    exact ⟨rfl, by go_grown⟩
/-- The key of a link: its Mid's rank, or -1. -/
def midOf (rk : Fn) (x : Lk) : Int := if x.m = -1 then -1 else rk x.m.toNat
theorem mid_any (pr : Option Addr) (nr cr : Nat) (pl : Option Addr) (nl cl : Nat) (rk : Fn) (x : Lk) (w : World) (hn : nr ≤ 1000000) (hr : IntsAt w pr nr rk) (hx : x.m = -1 ∨ Vtx nr x.m) :
    Calls Try.prog 25 #[HV pr nr cr pl nl cl, .agg #[.int .i64 x.a, .int .i64 x.b, .int .i64 x.w, .int .i64 x.m]] w fun e w' => e = .returned (.int .i64 (midOf rk x)) ∧ Below w.heap.size w w' := by
  obtain ⟨a, b, q, m⟩ := x
  unfold midOf
  simp only at hx ⊢
  by_cases h1 : m = -1
  · subst h1
    rw [if_pos rfl]
    clear hr hx
    go_enter Try.func25, Try.ntmps25
    go_wp2
    go_ret
    exact ⟨rfl, by go_grown⟩
  · rw [if_neg h1]
    have hv : Vtx nr m := by rcases hx with h | h; exact absurd h h1; exact h
    obtain ⟨v0, v1⟩ := hv
    obtain ⟨bl, off, rfl, hc⟩ := hr (by omega)
    obtain ⟨k, rfl⟩ : ∃ k : Nat, m = k := ⟨m.toNat, by omega⟩
    rw [Int.toNat_natCast]
    have c0 := hc k (by omega)
    have hl := World.block_lt_of_cell? w _ c0
    clear hc hx hr
    generalize rk k = r at *
    go_enter Try.func25, Try.ntmps25
    go_wp2
    go_ret
    exact ⟨rfl, by go_grown⟩
end Go.Proofs.Ytgmlaimlcccmhaa
