/-
  THE WALK OF THE STABLE SORT OF NUMBERS BY A KEY. CONDITIONS: stated.
-/
import Derived.Test.YtgmlaimlcccmhaaISort6
namespace Go.Proofs.Ytgmlaimlcccmhaa
open Go.RowKit Go.Proofs.Ytgmlaimlcccmhaa.Tame
set_option maxHeartbeats 400000

/-- Blocks of p points within [lo, hi) are in order. -/
def Blk (key : Int → Int) (p lo hi : Nat) (f : Fn) : Prop := ∀ c x y, c * p ≤ x → lo ≤ x → x < y → y < hi → y < c * p + p → key (f x) ≤ key (f y)
theorem lt_of_mul {c d p : Nat} (h : d * p < c * p + p) : d ≤ c := by
  have h' : d * p < (c + 1) * p := by rw [Nat.add_mul, Nat.one_mul]; exact h
  exact Nat.lt_succ_iff.1 (Nat.lt_of_mul_lt_mul_right h')
theorem Blk.next {key : Int → Int} {p d hi : Nat} {f h : Fn} (hb : Blk key p 0 (d * p) f) (hs : Sw (d * p) hi f h) (ha : Asc key (d * p) hi h) : Blk key p 0 hi h := by
  intro c x y h1 _ h3 h4 h5
  by_cases hy : y < d * p
  · rw [hs.out x (.inl (by omega)), hs.out y (.inl hy)]; exact hb c x y h1 (Nat.zero_le _) h3 hy h5
  · have hc : d ≤ c := lt_of_mul (p := p) (by omega)
    have : d * p ≤ c * p := Nat.mul_le_mul_right p hc
    exact ha x y (by omega) h3 h4
theorem Blk.rest {key : Int → Int} {p a b n : Nat} {f h : Fn} (hb : Blk key p a n f) (hs : Sw a b f h) (hab : a ≤ b) : Blk key p b n h := by
  intro c x y h1 h2 h3 h4 h5
  rw [hs.out x (.inr h2), hs.out y (.inr (by omega))]
  exact hb c x y h1 (by omega) h3 h4 h5
theorem Blk.asc {key : Int → Int} {p a n c lo hi : Nat} {f : Fn} (hb : Blk key p a n f) (h1 : c * p ≤ lo) (h2 : a ≤ lo) (h3 : hi ≤ c * p + p) (h4 : hi ≤ n) : Asc key lo hi f :=
  fun x y g1 g2 g3 => hb c x y (by omega) (by omega) g2 (by omega) (by omega)
theorem Blk.short {key : Int → Int} {p n : Nat} {f : Fn} (h : Blk key p 0 n f) (hn : n ≤ p) : Asc key 0 n f := fun x y _ g2 g3 => h 0 x y (by omega) (by omega) g2 g3 (by omega)

set_option maxRecDepth 100000 in
set_option maxHeartbeats 4000000 in
theorem stable_any (key : Int → Int) (D : Int → Prop) (g n cap : Nat) (ad : Addr) (f : Fn) (w : World) (hn : n ≤ 1000000) (hr : RowAt w g n f w) (hkb : CmpOK key D g ad w) (hin : AllIn D n f) :
    Calls Try.prog 30 #[.slice (some ⟨g, 0, none⟩) n cap, .int .i64 n, .func (.func 23) #[] #[.pointer (some ad)]] w (SortPost key w g n 0 n f) := by
  have HR := Lib.hid hr
  have HKB := Lib.hid hkb
  have HIN := Lib.hid hin
  clear hr hkb hin
  go_enter Try.func30, Try.ntmps30
  go_wp2
  go_loopw [7, 8] (fun s7 s8 wr => ∃ (d : Nat) (h : Fn), s7 = .int .i64 ((d * 20 : Nat) : Int) ∧ s8 = .int .i64 ((d * 20 + 20 : Nat) : Int) ∧ d * 20 ≤ n ∧ RowAt w g n h wr ∧ Sw 0 n f h ∧ Hid (Blk key 20 0 (d * 20) h)) (fun s7 _ _ => n + 20 - (intOf s7).toNat)
  case atStart => exact ⟨0, f, rfl, rfl, by omega, HR.out, .refl f, Lib.hid (fun c x y h1 h2 h3 h4 h5 => by omega)⟩
  case round =>
    obtain ⟨d, h, rfl, rfl, hd, hrow, hsw, hblk⟩ := hrel
    have HRow := Lib.hid hrow
    have HSw := Lib.hid hsw
    clear hrow hsw HR
    by_cases hlt : d * 20 + 20 ≤ n
    · go_wp2_with fail
      refine (insertion_any key D g n cap (d * 20) (d * 20 + 20) ad h _ (by omega) hlt hn (RowAt.self HRow.out) (fun W x y hk => HKB.out W x y (HRow.out.kept.trans' hk)) (HIN.out.sw HSw.out (Nat.le_refl _))).mono ?_
      rintro e w1 ⟨rfl, h1, hr1, hs1, ha1⟩
      have HR1 := Lib.hid (HRow.out.rebase hr1)
      have HS1 := Lib.hid (HSw.out.trans (hs1.mono (a' := 0) (b' := n) (by omega) hlt))
      have HB1 := Lib.hid (Blk.next hblk.out hs1 ha1)
      clear hr1 hs1 ha1
      go_wp2_with fail
      go_roundw
      case rel => exact ⟨d + 1, h1, congrArg (Value.int .i64) (by omega), congrArg (Value.int .i64) (by omega), by omega, HR1.out, HS1.out, Lib.hid (by rw [show (d + 1) * 20 = d * 20 + 20 by omega]; exact HB1.out)⟩
      case measure => simp [intOf]; omega
    · go_wp2_with fail
      refine (insertion_any key D g n cap (d * 20) n ad h _ hd (Nat.le_refl _) hn (RowAt.self HRow.out) (fun W x y hk => HKB.out W x y (HRow.out.kept.trans' hk)) (HIN.out.sw HSw.out (Nat.le_refl _))).mono ?_
      rintro e w1 ⟨rfl, h1, hr1, hs1, ha1⟩
      have HR1 := Lib.hid (HRow.out.rebase hr1)
      have HS1 := Lib.hid (HSw.out.trans (hs1.mono (a' := 0) (b' := n) (by omega) (Nat.le_refl _)))
      have HB1 := Lib.hid (Blk.next hblk.out hs1 ha1)
      clear hr1 hs1 ha1 HRow HSw hblk
      go_wp2_with fail
      go_loopw [6] (fun s6 wr => ∃ (p : Nat) (h : Fn), s6 = .int .i64 p ∧ 1 ≤ p ∧ p ≤ 4000000 ∧ RowAt w g n h wr ∧ Sw 0 n f h ∧ Hid (Blk key p 0 n h)) (fun s6 _ => n - (intOf s6).toNat)
      case atStart => exact ⟨20, h1, rfl, by omega, by omega, HR1.out, HS1.out, HB1⟩
      case round =>
        clear HR1 HS1 HB1
        obtain ⟨p, h, rfl, hp1, hp2, hrow, hsw, hblk⟩ := hrel
        have HRow := Lib.hid hrow
        have HSw := Lib.hid hsw
        clear hrow hsw
        obtain ⟨wo, rfl⟩ : ∃ wo : World, wo = wr := ⟨_, rfl⟩
        by_cases hlt : p < n
        · go_wp2_with fail
          go_loopw [7, 8] (fun s7 s8 wr => ∃ (d A : Nat) (h : Fn), s7 = .int .i64 A ∧ s8 = .int .i64 ((A + 2 * p : Nat) : Int) ∧ Hid (d * (2 * p) = A) ∧ A ≤ n ∧ RowAt w g n h wr ∧ Sw 0 n f h ∧ Hid (Blk key (2 * p) 0 A h) ∧ Hid (Blk key p A n h)) (fun s7 _ _ => n + 2 * p - (intOf s7).toNat)
          case atStart => exact ⟨0, 0, h, rfl, congrArg (Value.int .i64) (by omega), Lib.hid (by omega), by omega, HRow.out, HSw.out, Lib.hid (fun c x y h1 h2 h3 h4 h5 => by omega), hblk⟩
          case round =>
            clear HRow HSw hblk
            obtain ⟨d, A, h, rfl, rfl, hdA, hA, hrow, hsw, hb2, hb1⟩ := hrel
            have HRow := Lib.hid hrow
            have HSw := Lib.hid hsw
            clear hrow hsw
            have e1 : 2 * d * p = A := by rw [← hdA.out, Nat.mul_comm 2 d, Nat.mul_assoc]
            have e2 : (2 * d + 1) * p = A + p := by rw [Nat.add_mul, e1, Nat.one_mul]
            have E1 := Lib.hid e1
            have E2 := Lib.hid e2
            clear e1 e2
            by_cases hlt2 : A + 2 * p ≤ n
            · have hm1 := Lib.hid (hb1.out.asc (c := 2 * d) (lo := A) (hi := A + p) (by rw [E1.out]; omega) (Nat.le_refl _) (by rw [E1.out]; omega) (by omega))
              have hm2 := Lib.hid (hb1.out.asc (c := 2 * d + 1) (lo := A + p) (hi := A + 2 * p) (by rw [E2.out]; omega) (by omega) (by rw [E2.out]; omega) (by omega))
              go_wp2_with fail
              rw [show (A : Int) + (p : Int) = ((A + p : Nat) : Int) by omega]
              refine (mergeOK key D g n cap ad hn (2 * p) A (A + p) (A + 2 * p) h _ (by omega) (by omega) (by omega) hlt2 (RowAt.self HRow.out) (fun W x y hk => HKB.out W x y (HRow.out.kept.trans' hk)) (HIN.out.sw HSw.out (Nat.le_refl _)) hm1.out hm2.out).mono ?_
              rintro e w1 ⟨rfl, h2, hr1, hs1, ha1⟩
              have HR1 := Lib.hid (HRow.out.rebase hr1)
              have HS1 := Lib.hid (HSw.out.trans (hs1.mono (a' := 0) (b' := n) (by omega) hlt2))
              have HN1 := Lib.hid (Blk.next (p := 2 * p) (d := d) (hi := A + 2 * p) (by rw [hdA.out]; exact hb2.out) (by rw [hdA.out]; exact hs1) (by rw [hdA.out]; exact ha1))
              have HN2 := Lib.hid (hb1.out.rest hs1 (by omega))
              have HD := Lib.hid (show (d + 1) * (2 * p) = A + 2 * p by rw [Nat.add_mul, hdA.out, Nat.one_mul])
              clear hr1 hs1 ha1 HRow HSw hm1 hm2
              go_wp2_with fail
              go_roundw
              case rel => exact ⟨d + 1, A + 2 * p, h2, rfl, congrArg (Value.int .i64) (by omega), HD, hlt2, HR1.out, HS1.out, HN1, HN2⟩
              case measure => simp [intOf]; omega
            · by_cases hm : A + p < n
              · have hm1 := Lib.hid (hb1.out.asc (c := 2 * d) (lo := A) (hi := A + p) (by rw [E1.out]; omega) (Nat.le_refl _) (by rw [E1.out]; omega) (by omega))
                have hm2 := Lib.hid (hb1.out.asc (c := 2 * d + 1) (lo := A + p) (hi := n) (by rw [E2.out]; omega) (by omega) (by rw [E2.out]; omega) (by omega))
                go_wp2_with fail
                rw [show (A : Int) + (p : Int) = ((A + p : Nat) : Int) by omega]
                refine (mergeOK key D g n cap ad hn (2 * p) A (A + p) n h _ (by omega) (by omega) (by omega) (Nat.le_refl _) (RowAt.self HRow.out) (fun W x y hk => HKB.out W x y (HRow.out.kept.trans' hk)) (HIN.out.sw HSw.out (Nat.le_refl _)) hm1.out hm2.out).mono ?_
                rintro e w1 ⟨rfl, h2, hr1, hs1, ha1⟩
                have HR1 := Lib.hid (HRow.out.rebase hr1)
                have HS1 := Lib.hid (HSw.out.trans (hs1.mono (a' := 0) (b' := n) (by omega) (Nat.le_refl _)))
                have HN1 := Lib.hid (Blk.next (p := 2 * p) (d := d) (hi := n) (by rw [hdA.out]; exact hb2.out) (by rw [hdA.out]; exact hs1) (by rw [hdA.out]; exact ha1))
                clear hr1 hs1 ha1 HRow HSw hm1 hm2
                go_wp2_with fail
                go_roundw
                case rel => exact ⟨2 * p, h2, congrArg (Value.int .i64) (by omega), by omega, by omega, HR1.out, HS1.out, HN1⟩
                case measure => simp [intOf]; omega
              · have ha1 := hb1.out.asc (c := 2 * d) (lo := A) (hi := n) (by rw [E1.out]; omega) (Nat.le_refl _) (by rw [E1.out]; omega) (Nat.le_refl _)
                have HN1 := Lib.hid (Blk.next (p := 2 * p) (d := d) (hi := n) (h := h) (by rw [hdA.out]; exact hb2.out) (.refl h) (by rw [hdA.out]; exact ha1))
                clear ha1
                go_wp2_with fail
                go_roundw
                case rel => exact ⟨2 * p, h, congrArg (Value.int .i64) (by omega), by omega, by omega, HRow.out, HSw.out, HN1⟩
                case measure => simp [intOf]; omega
        · have HF := Lib.hid (hblk.out.short (by omega))
          go_wp2_with fail
          go_end0
          exact ⟨rfl, h, HRow.out, HSw.out, HF.out⟩
end Go.Proofs.Ytgmlaimlcccmhaa
