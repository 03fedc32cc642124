/-
  THE DOCUMENT's LOOK FOR A LINK. CONDITIONS: stated.
-/
import Derived.Test.YtgmlaimlcccmhaaNMay
namespace Go.Proofs.Ytgmlaimlcccmhaa
open Go.RowKit Go.Proofs.Ytgmlaimlcccmhaa.Tame
set_option maxHeartbeats 400000

theorem ret_i64 {a b : Int} (h : a = b) : Ending.returned (.int .i64 a) = .returned (.int .i64 b) := by rw [h]
/-- The first of the first n links with these ends; -1: there is none. -/
def lnkR (ls : Ls) (f t : Int) : Nat → Int
  | 0 => -1
  | n + 1 => if lnkR ls f t n = -1 then (if (ls n).a = f ∧ (ls n).b = t then (n : Int) else -1) else lnkR ls f t n
theorem lnkR_none {ls : Ls} {f t : Int} : ∀ {n : Nat}, (∀ x, x < n → ¬ IsL (ls x) f t) → lnkR ls f t n = -1
  | 0, _ => rfl
  | n + 1, h => by
    unfold lnkR
    rw [if_pos (lnkR_none (n := n) fun x hx => h x (by omega)), if_neg (show ¬ ((ls n).a = f ∧ (ls n).b = t) from h n (by omega))]
theorem lnkR_first {ls : Ls} {f t : Int} {k : Nat} (h1 : ∀ x, x < k → ¬ IsL (ls x) f t) (h2 : IsL (ls k) f t) : ∀ {n : Nat}, k < n → lnkR ls f t n = k
  | 0, h => by omega
  | n + 1, h => by
    unfold lnkR
    by_cases e : k = n
    · subst e
      rw [if_pos (lnkR_none h1), if_pos (show (ls k).a = f ∧ (ls k).b = t from h2)]
    · have ih := lnkR_first h1 h2 (n := n) (by omega)
      rw [ih, if_neg (by omega)]
theorem lnkR_cases (ls : Ls) (f t : Int) (n : Nat) : (lnkR ls f t n = -1 ∧ ∀ x, x < n → ¬ IsL (ls x) f t) ∨ ∃ k, k < n ∧ lnkR ls f t n = (k : Int) ∧ IsL (ls k) f t := by
  induction n with
  | zero => exact .inl ⟨rfl, fun x hx => by omega⟩
  | succ n ih =>
    rcases ih with ⟨h1, h2⟩ | ⟨k, hk, h1, h2⟩
    · by_cases h : IsL (ls n) f t
      · exact .inr ⟨n, by omega, by unfold lnkR; rw [if_pos h1, if_pos (show (ls n).a = f ∧ (ls n).b = t from h)], h⟩
      · refine .inl ⟨by unfold lnkR; rw [if_pos h1, if_neg (show ¬ ((ls n).a = f ∧ (ls n).b = t) from h)], fun x hx => ?_⟩
        by_cases e : x = n
        · subst e; exact h
        · exact h2 x (by omega)
    · exact .inr ⟨k, by omega, by unfold lnkR; rw [if_neg (by omega), h1], h2⟩
theorem lnkR_at {ls : Ls} {nl : Nat} (hr : Rise nl ls) {k : Nat} {f t : Int} (hk : k < nl) (h : IsL (ls k) f t) : lnkR ls f t nl = k := by
  rcases lnkR_cases ls f t nl with ⟨_, h2⟩ | ⟨k', hk', h1, h2⟩
  · exact absurd h (h2 k hk)
  · rw [h1, hr.one hk' hk h2 h]

set_option maxRecDepth 100000 in
theorem reflink_any (pl : Option Addr) (nl cl : Nat) (ls : Ls) (f t : Int) (w : World) (hnl : nl ≤ 400) (hl : LinksAt w pl nl ls) :
    Calls Try.prog 11 #[.slice pl nl cl, .int .i64 f, .int .i64 t] w fun e w' => e = .returned (.int .i64 (lnkR ls f t nl)) ∧ w = w' := by
  have HL := Lib.hid hl
  clear hl
  generalize hv : lnkR ls f t nl = v
  have HV := Lib.hid hv
  clear hv
  go_enter Try.func11, Try.ntmps11
  go_wp2
  go_loop [7] (fun s7 => ∃ i : Nat, s7 = .int .i64 i ∧ i ≤ nl ∧ Hid (∀ x, x < i → ¬ IsL (ls x) f t)) (fun s7 => nl - (intOf s7).toNat)
  case atStart => exact ⟨0, rfl, by omega, Lib.hid (fun x hx => absurd hx (Nat.not_lt_zero _))⟩
  case round =>
    obtain ⟨i, rfl, hi, hno⟩ := hrel
    by_cases hlt : i < nl
    · obtain ⟨b, off, rfl, hc⟩ := HL.out (by omega)
      have hci := hc i hlt
      clear hc
      generalize hA : ls i = A at hci
      have HA := Lib.hid hA
      clear hA
      obtain ⟨c0, c1, _, _⟩ := hci
      by_cases h1 : A.a = f
      · by_cases h2 : A.b = t
        · have HV2 := Lib.hid (show (i : Int) = v by rw [← HV.out, lnkR_first hno.out (by rw [HA.out]; exact ⟨h1, h2⟩) hlt])
          subst h1
          subst h2
          go_wp2
          go_ret
          exact ⟨ret_i64 HV2.out, rfl⟩
        · have hd : (A.b == t) = false := beq_eq_false_iff_ne.2 h2
          have HNO := Lib.hid (fun x (hx : x < i + 1) => show ¬ IsL (ls x) f t by
            by_cases e : x = i
            · subst e; rw [HA.out]; exact fun h => h2 h.2
            · exact hno.out x (by omega))
          clear h2
          subst h1
          go_wp2
          go_round
          case rel => exact ⟨i + 1, by go_num, hlt, HNO⟩
          case measure => simp [intOf]; omega
      · have hd : (A.a == f) = false := beq_eq_false_iff_ne.2 h1
        have HNO := Lib.hid (fun x (hx : x < i + 1) => show ¬ IsL (ls x) f t by
          by_cases e : x = i
          · subst e; rw [HA.out]; exact fun h => h1 h.1
          · exact hno.out x (by omega))
        clear h1
        go_wp2
        go_round
        case rel => exact ⟨i + 1, by go_num, hlt, HNO⟩
        case measure => simp [intOf]; omega
    · obtain rfl : i = nl := by omega
      have HV2 := Lib.hid (show (-1 : Int) = v by rw [← HV.out, lnkR_none hno.out])
      go_wp2
      go_ret
      exact ⟨ret_i64 HV2.out, rfl⟩
end Go.Proofs.Ytgmlaimlcccmhaa
