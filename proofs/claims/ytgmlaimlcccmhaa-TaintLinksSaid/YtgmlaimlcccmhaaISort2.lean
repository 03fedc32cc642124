/-
  WALKS OF THE EXCHANGES OF A STABLE SORT: swapRange, rotate. CONDITIONS: stated.
-/
import Derived.Test.YtgmlaimlcccmhaaIRow
import Derived.Lib.Hide
import Derived.BigRegion
import Derived.Deep.DeepCutAuto
namespace Go.Proofs.Ytgmlaimlcccmhaa
open Go.RowKit Go.Proofs.Ytgmlaimlcccmhaa.Tame
set_option maxHeartbeats 400000

def swpR (a b : Nat) : Nat → Fn → Fn
  | 0, f => f
  | m + 1, f => swpF (swpR a b m f) (a + m) (b + m)

theorem swaprange_any (g n cap a b m : Nat) (f : Fn) (cb : Value) (w : World) (hab : a + m ≤ b) (hb : b + m ≤ n) (hn : n ≤ 1000000) (hr : RowAt w g n f w) :
    Calls Try.prog 37 #[.slice (some ⟨g, 0, none⟩) n cap, .int .i64 a, .int .i64 b, .int .i64 m, cb] w fun e w' => e = .returned (.tuple #[]) ∧ RowAt w g n (swpR a b m f) w' := by
  have HR := Lib.hid hr
  clear hr
  go_enter Try.func37, Try.ntmps37
  go_wp2
  go_loopw [10] (fun s10 wr => ∃ i : Nat, i ≤ m ∧ s10 = .int .i64 i ∧ RowAt w g n (swpR a b i f) wr) (fun s10 _ => m - (intOf s10).toNat)
  case atStart => exact ⟨0, by omega, rfl, HR.out⟩
  case round =>
    obtain ⟨i, hi, rfl, hk, cur, hg, hp⟩ := hrel
    by_cases hlt : i < m
    · have hp1 := hp (a + i) (by omega)
      have hp2 := hp (b + i) (by omega)
      have HPF := Lib.hid hp
      clear hp
      generalize hF : swpR a b i f = F at hp1 hp2 ⊢
      generalize hA : F (a + i) = A at *
      generalize hB : F (b + i) = B at *
      have HF := Lib.hid hF
      have HA := Lib.hid hA
      have HB := Lib.hid hB
      clear hF hA hB
      have c0 : wr.cell? ⟨g, a + i, none⟩ = some (.int .i64 A) := cell_of_block hg hp1
      have c2 : wr.cell? ⟨g, b + i, none⟩ = some (.int .i64 B) := cell_of_block hg hp2
      have d0 : ∀ j, wr.frozen? ⟨g, j, none⟩ = false := fun j => free_of_block hg
      go_upto_region 3 with (fail)
      go_big_region
      have hsw := RowAt.swap (f := F) ⟨hk, cur, hg, by rw [← HF.out]; exact HPF.out⟩ (i := a + i) (j := b + i) (by omega) (by omega)
      rw [HA.out, HB.out] at hsw
      have HS := Lib.hid hsw
      clear hsw c0 c2 d0 hk hg hp1 hp2
      go_wp2
      go_roundw
      case rel => exact ⟨i + 1, hlt, by go_num, by show RowAt w g n (swpF (swpR a b i f) (a + i) (b + i)) _; rw [HF.out]; exact HS.out⟩
      case measure => simp [intOf]; omega
    · obtain rfl : i = m := by omega
      have HS := Lib.hid (RowAt.mk hk ⟨cur, hg, hp⟩ : RowAt w g n (swpR a b i f) wr)
      clear hk hg hp HR
      go_wp2
      go_end0
      exact ⟨rfl, HS.out⟩

theorem swpR_at (a b m : Nat) (f : Fn) (h : a + m ≤ b) (x : Nat) : swpR a b m f x = if a ≤ x ∧ x < a + m then f (x - a + b) else if b ≤ x ∧ x < b + m then f (x - b + a) else f x := by
  induction m generalizing x with
  | zero => rw [if_neg (by omega), if_neg (by omega)]; rfl
  | succ m ih =>
    have h' : a + m ≤ b := by omega
    show swpF (swpR a b m f) (a + m) (b + m) x = _
    unfold swpF
    rw [ih h' (b + m), ih h' (a + m), ih h' x]
    by_cases h1 : x = a + m
    · subst h1
      rw [if_pos rfl, if_neg (by omega), if_neg (by omega), if_pos (by omega)]
      congr 1; omega
    · rw [if_neg h1]
      by_cases h2 : x = b + m
      · subst h2
        rw [if_pos rfl, if_neg (by omega), if_neg (by omega), if_neg (by omega), if_pos (by omega)]
        congr 1; omega
      · rw [if_neg h2]
        by_cases h3 : a ≤ x ∧ x < a + m
        · rw [if_pos h3, if_pos (by omega)]
        · rw [if_neg h3]
          by_cases h4 : b ≤ x ∧ x < b + m
          · rw [if_pos h4, if_neg (by omega), if_pos (by omega)]
          · rw [if_neg h4, if_neg (by omega), if_neg (by omega)]
theorem swpR_sw (lo hi a b m : Nat) (f : Fn) (h1 : lo ≤ a) (h2 : lo ≤ b) (h3 : a + m ≤ hi) (h4 : b + m ≤ hi) : Sw lo hi f (swpR a b m f) := by
  induction m with
  | zero => exact .refl f
  | succ m ih => exact .step (by omega) (by omega) (by omega) (by omega) (ih (by omega) (by omega))

/-- The points of [a, m) and of [m, b), changed about. -/
def rotF (a m b : Nat) (f : Fn) : Fn := fun x => if a ≤ x ∧ x < a + (b - m) then f (x + (m - a)) else if a + (b - m) ≤ x ∧ x < b then f (x - (b - m)) else f x

theorem rot_gt (m i j : Nat) (f : Fn) (hi : i ≤ m) (h : j < i) : rotF (m - i) m (m + j) f = rotF (m - (i - j)) m (m + j) (swpR (m - i) m j f) := by
  funext x
  unfold rotF
  simp only [swpR_at (m - i) m j f (by omega)]
  by_cases h1 : m - i ≤ x ∧ x < m - i + j
  · rw [if_pos (by omega), if_neg (by omega), if_neg (by omega), if_pos h1]; congr 1; omega
  · by_cases h2 : m - i + j ≤ x ∧ x < m + j
    · rw [if_neg (by omega), if_pos (by omega)]
      by_cases h3 : x < m - (i - j) + j
      · rw [if_pos (by omega), if_neg (by omega), if_pos (by omega)]; congr 1; omega
      · rw [if_neg (by omega), if_pos (by omega), if_neg (by omega), if_neg (by omega)]
    · rw [if_neg (by omega), if_neg (by omega), if_neg (by omega), if_neg (by omega), if_neg h1, if_neg (by omega)]
theorem rot_lt (m i j : Nat) (f : Fn) (hi : i ≤ m) (h : i < j) : rotF (m - i) m (m + j) f = rotF (m - i) m (m + (j - i)) (swpR (m - i) (m + j - i) i f) := by
  funext x
  unfold rotF
  simp only [swpR_at (m - i) (m + j - i) i f (by omega)]
  by_cases h1 : m + j - i ≤ x ∧ x < m + j
  · rw [if_neg (by omega), if_pos (by omega), if_neg (by omega), if_neg (by omega), if_neg (by omega), if_pos (by omega)]; congr 1; omega
  · by_cases h2 : m - i ≤ x ∧ x < m + j
    · by_cases h3 : x < m - i + (j - i)
      · rw [if_pos (by omega), if_pos (by omega)]
        by_cases h4 : x + (m - (m - i)) < m + j - i
        · rw [if_neg (by omega), if_neg (by omega)]
        · rw [if_neg (by omega), if_pos (by omega)]; congr 1; omega
      · rw [if_pos (by omega), if_neg (by omega), if_pos (by omega), if_pos (by omega)]; congr 1; omega
    · rw [if_neg (by omega), if_neg (by omega), if_neg (by omega), if_neg (by omega), if_neg (by omega), if_neg (by omega)]
theorem rot_eq (m i : Nat) (f : Fn) (hi : i ≤ m) : rotF (m - i) m (m + i) f = swpR (m - i) m i f := by
  funext x
  unfold rotF
  rw [swpR_at (m - i) m i f (by omega)]
  by_cases h1 : m - i ≤ x ∧ x < m - i + i
  · rw [if_pos (by omega), if_pos h1]; congr 1; omega
  · by_cases h2 : m ≤ x ∧ x < m + i
    · rw [if_neg (by omega), if_pos (by omega), if_neg h1, if_pos h2]; congr 1; omega
    · rw [if_neg (by omega), if_neg (by omega), if_neg h1, if_neg h2]

def RotPost (w : World) (g n a m b : Nat) (f : Fn) (e : Ending) (w' : World) : Prop := e = .returned (.tuple #[]) ∧ RowAt w g n (rotF a m b f) w' ∧ Sw a b f (rotF a m b f)

theorem rotate_any (g n cap a m b : Nat) (f : Fn) (cb : Value) (w : World) (ham : a < m) (hmb : m < b) (hb : b ≤ n) (hn : n ≤ 1000000) (hr : RowAt w g n f w) :
    Calls Try.prog 36 #[.slice (some ⟨g, 0, none⟩) n cap, .int .i64 a, .int .i64 m, .int .i64 b, cb] w (RotPost w g n a m b f) := by
  have HR := Lib.hid hr
  clear hr
  go_enter Try.func36, Try.ntmps36
  go_wp2
  go_loopw [10, 11] (fun s10 s11 wr => ∃ (i j : Nat) (F : Fn), s10 = .int .i64 i ∧ s11 = .int .i64 j ∧ 1 ≤ i ∧ 1 ≤ j ∧ a + i ≤ m ∧ m + j ≤ b ∧ RowAt w g n F wr ∧ Sw a b f F ∧ Hid (rotF (m - i) m (m + j) F = rotF a m b f)) (fun s10 s11 _ => (intOf s10).toNat + (intOf s11).toNat)
  case atStart => exact ⟨m - a, b - m, f, congrArg (Value.int .i64) (by omega), congrArg (Value.int .i64) (by omega), by omega, by omega, by omega, by omega, HR.out, .refl f, Lib.hid (by congr 1 <;> omega)⟩
  case round =>
    obtain ⟨i, j, F, rfl, rfl, hi1, hj1, him, hjb, hrow, hsw, hrot⟩ := hrel
    have HRow := Lib.hid hrow
    have HSw := Lib.hid hsw
    clear hrow hsw HR
    by_cases hgt : j < i
    · have hne : ((i : Int) == (j : Int)) = false := beq_eq_false_iff_ne.2 (by omega)
      go_wp2_with fail
      rw [show (m : Int) - (i : Int) = ((m - i : Nat) : Int) by omega]
      refine (swaprange_any g n cap (m - i) m j F cb _ (by omega) (by omega) hn (RowAt.self HRow.out)).mono ?_
      rintro e w1 ⟨rfl, hrow1⟩
      have HR1 := Lib.hid (HRow.out.rebase hrow1)
      clear hrow1
      go_wp2_with fail
      go_roundw
      case rel => exact ⟨i - j, j, _, congrArg (Value.int .i64) (by omega), rfl, by omega, by omega, by omega, by omega, HR1.out, HSw.out.trans (swpR_sw a b _ _ _ _ (by omega) (by omega) (by omega) (by omega)), Lib.hid (by rw [← rot_gt m i j F (by omega) hgt]; exact hrot.out)⟩
      case measure => simp [intOf]; omega
    · by_cases hlt : i < j
      · have hne : ((i : Int) == (j : Int)) = false := beq_eq_false_iff_ne.2 (by omega)
        go_wp2_with fail
        rw [show (m : Int) - (i : Int) = ((m - i : Nat) : Int) by omega, show (m : Int) + (j : Int) - (i : Int) = ((m + j - i : Nat) : Int) by omega]
        refine (swaprange_any g n cap (m - i) (m + j - i) i F cb _ (by omega) (by omega) hn (RowAt.self HRow.out)).mono ?_
        rintro e w1 ⟨rfl, hrow1⟩
        have HR1 := Lib.hid (HRow.out.rebase hrow1)
        clear hrow1
        go_wp2_with fail
        go_roundw
        case rel => exact ⟨i, j - i, _, rfl, congrArg (Value.int .i64) (by omega), by omega, by omega, by omega, by omega, HR1.out, HSw.out.trans (swpR_sw a b _ _ _ _ (by omega) (by omega) (by omega) (by omega)), Lib.hid (by rw [← rot_lt m i j F (by omega) hlt]; exact hrot.out)⟩
        case measure => simp [intOf]; omega
      · obtain rfl : i = j := by omega
        have hrq : rotF a m b f = swpR (m - i) m i F := by rw [← hrot.out, rot_eq m i F (by omega)]
        have HQ := Lib.hid hrq
        clear hrq hrot
        go_wp2_with fail
        rw [show (m : Int) - (i : Int) = ((m - i : Nat) : Int) by omega]
        refine (swaprange_any g n cap (m - i) m i F cb _ (by omega) (by omega) hn (RowAt.self HRow.out)).mono ?_
        rintro e w1 ⟨rfl, hrow1⟩
        have HR1 := Lib.hid (HRow.out.rebase hrow1)
        clear hrow1
        go_wp2_with fail
        go_end0
        exact ⟨rfl, by rw [HQ.out]; exact HR1.out, by rw [HQ.out]; exact HSw.out.trans (swpR_sw a b _ _ _ _ (by omega) (by omega) (by omega) (by omega))⟩
end Go.Proofs.Ytgmlaimlcccmhaa
