/-
  THE WALK OF symMerge WHERE ONE OF THE TWO RUNS IS OF ONE POINT. CONDITIONS: stated.
-/
import Derived.Test.YtgmlaimlcccmhaaISort3
import Derived.Lib.Hide
import Derived.BigRegion
import Derived.Deep.DeepCutAuto
namespace Go.Proofs.Ytgmlaimlcccmhaa
open Go.RowKit Go.Proofs.Ytgmlaimlcccmhaa.Tame
set_option maxHeartbeats 400000

/-- The point at a is moved up to c. -/
def upF (a c : Nat) (f : Fn) : Fn := fun x => if a ≤ x ∧ x < c then f (x + 1) else if x = c then f a else f x
/-- The point at m is moved down to c. -/
def downF (c m : Nat) (f : Fn) : Fn := fun x => if c < x ∧ x ≤ m then f (x - 1) else if x = c then f m else f x
theorem upF_self (a : Nat) (f : Fn) : upF a a f = f := by
  funext x; unfold upF; rw [if_neg (by omega)]; split <;> simp_all
theorem upF_step (a c : Nat) (f : Fn) (h : a ≤ c) : swpF (upF a c f) c (c + 1) = upF a (c + 1) f := by
  funext x
  unfold swpF upF
  by_cases h1 : x = c
  · subst h1
    rw [if_pos rfl, if_neg (by omega), if_neg (by omega), if_pos (by omega)]
  · rw [if_neg h1]
    by_cases h2 : x = c + 1
    · rw [if_pos h2, if_neg (by omega), if_pos rfl, if_neg (by omega), if_pos h2]
    · rw [if_neg h2]
      by_cases h3 : a ≤ x ∧ x < c
      · rw [if_pos h3, if_pos (by omega)]
      · rw [if_neg h3, if_neg h1, if_neg (by omega), if_neg h2]
theorem downF_self (m : Nat) (f : Fn) : downF m m f = f := by
  funext x; unfold downF; rw [if_neg (by omega)]; split <;> simp_all
theorem downF_step (c m : Nat) (f : Fn) (h : c + 1 ≤ m) : swpF (downF (c + 1) m f) (c + 1) c = downF c m f := by
  funext x
  unfold swpF downF
  by_cases h1 : x = c + 1
  · subst h1
    rw [if_pos rfl, if_neg (by omega), if_neg (by omega), if_pos (by omega), Nat.add_sub_cancel]
  · rw [if_neg h1]
    by_cases h2 : x = c
    · rw [if_pos h2, if_neg (by omega), if_pos rfl, if_neg (by omega), if_pos h2]
    · rw [if_neg h2]
      by_cases h3 : c + 1 < x ∧ x ≤ m
      · rw [if_pos h3, if_pos (by omega)]
      · rw [if_neg h3, if_neg h1, if_neg (by omega), if_neg h2]
theorem up_asc {key : Int → Int} {a b i : Nat} {f : Fn} (hs : Asc key (a + 1) b f) (hi : a + 1 ≤ i) (hib : i ≤ b) (h1 : ∀ x, a + 1 ≤ x → x < i → key (f x) < key (f a)) (h2 : ∀ x, i ≤ x → x < b → key (f a) ≤ key (f x)) : Asc key a b (upF a (i - 1) f) := by
  intro x y hx hxy hy
  unfold upF
  by_cases c1 : x < i - 1
  · rw [if_pos ⟨hx, c1⟩]
    by_cases c2 : y < i - 1
    · rw [if_pos ⟨by omega, c2⟩]; exact hs _ _ (by omega) (by omega) (by omega)
    · rw [if_neg (by omega)]
      by_cases c3 : y = i - 1
      · rw [if_pos c3]; exact Int.le_of_lt (h1 _ (by omega) (by omega))
      · rw [if_neg c3]; exact hs _ _ (by omega) (by omega) hy
  · rw [if_neg (by omega)]
    by_cases c2 : x = i - 1
    · rw [if_pos c2, if_neg (by omega), if_neg (by omega)]; exact h2 y (by omega) hy
    · rw [if_neg c2, if_neg (by omega), if_neg (by omega)]; exact hs _ _ (by omega) hxy hy
theorem down_asc {key : Int → Int} {a m i : Nat} {f : Fn} (hs : Asc key a m f) (hi : a ≤ i) (him : i ≤ m) (h1 : ∀ x, a ≤ x → x < i → key (f x) ≤ key (f m)) (h2 : ∀ x, i ≤ x → x < m → key (f m) < key (f x)) : Asc key a (m + 1) (downF i m f) := by
  intro x y hx hxy hy
  unfold downF
  by_cases c1 : i < x
  · rw [if_pos (by omega), if_pos (by omega)]; exact hs _ _ (by omega) (by omega) (by omega)
  · rw [if_neg (by omega)]
    by_cases c2 : x = i
    · rw [if_pos c2, if_pos (by omega)]; exact Int.le_of_lt (h2 _ (by omega) (by omega))
    · rw [if_neg c2]
      by_cases c3 : i < y
      · rw [if_pos (by omega)]
        by_cases c4 : x = y - 1
        · omega
        · exact hs _ _ hx (by omega) (by omega)
      · rw [if_neg (by omega)]
        by_cases c4 : y = i
        · rw [if_pos c4]; exact h1 x hx (by omega)
        · rw [if_neg c4]; exact hs _ _ hx hxy (by omega)

set_option maxRecDepth 100000 in
set_option maxHeartbeats 1000000 in
theorem merge_one (key : Int → Int) (D : Int → Prop) (g n cap a b : Nat) (p : Addr) (f : Fn) (w : World) (hab : a + 1 < b) (hb : b ≤ n) (hn : n ≤ 1000000) (hr : RowAt w g n f w) (hkb : CmpOK key D g p w) (hin : AllIn D n f) (hs : Asc key (a + 1) b f) :
    Calls Try.prog 35 #[.slice (some ⟨g, 0, none⟩) n cap, .int .i64 a, .int .i64 (a + 1), .int .i64 b, .func (.func 23) #[] #[.pointer (some p)]] w (SortPost key w g n a b f) := by
  have HR := Lib.hid hr
  have HKB := Lib.hid hkb
  have HIN := Lib.hid hin
  have HSS := Lib.hid hs
  clear hr hkb hin hs
  go_enter Try.func35, Try.ntmps35
  go_wp2
  simp only [show ((a : Int) + 1 - (a : Int)) = 1 by omega, show ((1 : Int) == 1) = true from rfl]
  go_loopw [10, 11] (fun s10 s11 wr => ∃ i j : Nat, s10 = .int .i64 i ∧ s11 = .int .i64 j ∧ a + 1 ≤ i ∧ i ≤ j ∧ j ≤ b ∧ RowAt w g n f wr ∧ Hid (∀ x, a + 1 ≤ x → x < i → key (f x) < key (f a)) ∧ Hid (∀ x, j ≤ x → x < b → key (f a) ≤ key (f x))) (fun s10 s11 _ => (intOf s11).toNat - (intOf s10).toNat)
  case atStart => exact ⟨a + 1, b, by go_num, rfl, by omega, by omega, by omega, HR.out, Lib.hid (fun x h1 h2 => by omega), Lib.hid (fun x h1 h2 => by omega)⟩
  case round =>
    obtain ⟨i, j, rfl, rfl, hi1, hij, hjb, hrow, hlo, hhi⟩ := hrel
    have HRow := Lib.hid hrow
    clear HR
    by_cases hlt : i < j
    · go_upto_region 5 with (fail)
      rw [show ((i : Int) + (j : Int)) / 2 = (((i + j) / 2 : Nat) : Int) by omega]
      obtain ⟨c, hc0, hc1, hc2⟩ : ∃ c, (i + j) / 2 = c ∧ i ≤ c ∧ c < j := ⟨_, rfl, by omega, by omega⟩
      rw [hc0]
      clear hc0
      obtain ⟨hk, cur, hg, hp⟩ := hrow
      have pA := hp c (by omega)
      have pB := hp a (by omega)
      have q1 := HIN.out c (by omega)
      have q2 := HIN.out a (by omega)
      clear hk hp
      generalize hA : f c = A at pA q1
      generalize hB : f a = B at pB q2
      have HA := Lib.hid hA
      have HB := Lib.hid hB
      clear hA hB
      have z1 : (c : Int) < (n : Int) := by omega
      have z2 : (a : Int) < (n : Int) := by omega
      have z3 : (0 : Int) ≤ (c : Int) := Int.natCast_nonneg _
      have z4 : (0 : Int) ≤ (a : Int) := Int.natCast_nonneg _
      refine draws_hid (by kernel_rfl) (by kernel_rfl) (by kernel_rfl) (fun W hW ops hops => ?_)
      subst hW
      clear hops
      have c0 : ∀ xl : Later W [], xl.w.cell? ⟨g, c, none⟩ = some (.int .i64 A) := fun xl => cell_of_block (Later.at0 hg xl) pA
      have d0 : ∀ xl : Later W [], xl.w.cell? ⟨g, a, none⟩ = some (.int .i64 B) := fun xl => cell_of_block (Later.at0 hg xl) pB
      repeat (refine walkT_step (fun K hK => ?_); go_simp; first | (refine hK _ _ ?_; clear hK K) | (refine ⟨_, fun xl => HKB.out xl.w A B (HRow.out.kept.grow (xl.h.below (Nat.le_refl _) (fun d hd => by cases hd))) q1 q2, ?_⟩; refine hK _ _ ?_; clear hK K))
      refine walkT_nil ?_
      intro w5 hc
      have HRow5 := Lib.hid (HRow.out.below hc.below)
      have hcn := cmpI_neg (key A) (key B)
      have HCN := Lib.hid hcn
      generalize cmpI (key A) (key B) = v at *
      clear c0 d0 hc hcn hg pA pB
      by_cases hneg : v < 0
      · have hkl : key (f c) < key (f a) := by rw [HA.out, HB.out]; exact HCN.out.1 hneg
        have HL2 := Lib.hid (fun x (h1 : a + 1 ≤ x) (h2 : x < c + 1) => show key (f x) < key (f a) by
          by_cases e : x = c
          · rw [e]; exact hkl
          · exact Int.lt_of_le_of_lt (HSS.out x c h1 (by omega) (by omega)) hkl)
        clear hkl
        go_wp2
        go_roundw
        case rel => exact ⟨c + 1, j, by go_num, rfl, by omega, by omega, hjb, HRow5.out, HL2, hhi⟩
        case measure => simp [intOf]; omega
      · have hkl : key (f a) ≤ key (f c) := by have := HCN.out; rw [HA.out, HB.out]; omega
        have HH2 := Lib.hid (fun x (h1 : c ≤ x) (h2 : x < b) => show key (f a) ≤ key (f x) by
          by_cases e : x = c
          · rw [e]; exact hkl
          · exact Int.le_trans hkl (HSS.out c x (by omega) (by omega) h2))
        clear hkl
        go_wp2
        go_roundw
        case rel => exact ⟨i, c, rfl, rfl, hi1, by omega, by omega, HRow5.out, hlo, HH2⟩
        case measure => simp [intOf]; omega
    · obtain rfl : i = j := by omega
      clear hrow
      obtain ⟨wo, rfl⟩ : ∃ wo : World, wo = wr := ⟨_, rfl⟩
      go_wp2
      go_loopw [13] (fun s13 wr => ∃ c : Nat, s13 = .int .i64 c ∧ a ≤ c ∧ c ≤ i - 1 ∧ RowAt w g n (upF a c f) wr ∧ Sw a b f (upF a c f)) (fun s13 _ => i - 1 - (intOf s13).toNat)
      case atStart => exact ⟨a, rfl, Nat.le_refl _, by omega, by rw [upF_self]; exact HRow.out, by rw [upF_self]; exact .refl f⟩
      case round =>
        obtain ⟨c, rfl, hca, hci, hrow, hsw⟩ := hrel
        have HRow := Lib.hid hrow
        have HSw := Lib.hid hsw
        clear hsw
        have hz0 : (1 : Int) ≤ (i : Int) := by omega
        by_cases hlt : c < i - 1
        · have hz1 : (c : Int) < (i : Int) - 1 := by omega
          obtain ⟨hk, cur, hg, hp⟩ := hrow
          have pA := hp c (by omega)
          have pB := hp (c + 1) (by omega)
          clear hk hp
          generalize hF : upF a c f = F at *
          generalize hA : F c = A at *
          generalize hB : F (c + 1) = B at *
          have HF := Lib.hid hF
          have HA := Lib.hid hA
          have HB := Lib.hid hB
          clear hA hB hF
          have s0 : wr.cell? ⟨g, c, none⟩ = some (.int .i64 A) := cell_of_block hg pA
          have s2 : wr.cell? ⟨g, (c + 1), none⟩ = some (.int .i64 B) := cell_of_block hg pB
          have sf : ∀ j, wr.frozen? ⟨g, j, none⟩ = false := fun j => free_of_block hg
          go_upto_region 11 with (fail)
          go_big_region
          have hsw2 := RowAt.swap HRow.out (i := c) (j := c + 1) (by omega) (by omega)
          rw [HA.out, HB.out] at hsw2
          have HS := Lib.hid hsw2
          clear hsw2 s0 s2 sf hg pA pB
          go_wp2
          go_roundw
          case rel => exact ⟨c + 1, by go_num, by omega, by omega, by rw [← upF_step a c f hca, HF.out]; exact HS.out, by rw [← upF_step a c f hca, HF.out]; exact .step (by omega) (by omega) (by omega) (by omega) HSw.out⟩
          case measure => simp [intOf]; omega
        · obtain rfl : c = i - 1 := by omega
          have HA2 := Lib.hid (up_asc HSS.out hi1 hjb hlo.out hhi.out)
          clear hrow
          go_wp2
          go_end0
          exact ⟨rfl, _, HRow.out, HSw.out, HA2.out⟩

set_option maxRecDepth 100000 in
set_option maxHeartbeats 1000000 in
theorem merge_last (key : Int → Int) (D : Int → Prop) (g n cap a m : Nat) (p : Addr) (f : Fn) (w : World) (hab : a + 1 < m) (hb : m + 1 ≤ n) (hn : n ≤ 1000000) (hr : RowAt w g n f w) (hkb : CmpOK key D g p w) (hin : AllIn D n f) (hs : Asc key a m f) :
    Calls Try.prog 35 #[.slice (some ⟨g, 0, none⟩) n cap, .int .i64 a, .int .i64 m, .int .i64 (m + 1), .func (.func 23) #[] #[.pointer (some p)]] w (SortPost key w g n a (m + 1) f) := by
  have HR := Lib.hid hr
  have HKB := Lib.hid hkb
  have HIN := Lib.hid hin
  have HSS := Lib.hid hs
  clear hr hkb hin hs
  have hf1 : ((m : Int) - (a : Int) == 1) = false := beq_eq_false_iff_ne.2 (by omega)
  go_enter Try.func35, Try.ntmps35
  go_wp2
  simp only [show ((m : Int) + 1 - (m : Int)) = 1 by omega, show ((1 : Int) == 1) = true from rfl]
  go_loopw [14, 15] (fun s14 s15 wr => ∃ i j : Nat, s14 = .int .i64 i ∧ s15 = .int .i64 j ∧ a ≤ i ∧ i ≤ j ∧ j ≤ m ∧ RowAt w g n f wr ∧ Hid (∀ x, a ≤ x → x < i → key (f x) ≤ key (f m)) ∧ Hid (∀ x, j ≤ x → x < m → key (f m) < key (f x))) (fun s14 s15 _ => (intOf s15).toNat - (intOf s14).toNat)
  case atStart => exact ⟨a, m, rfl, rfl, by omega, by omega, by omega, HR.out, Lib.hid (fun x h1 h2 => by omega), Lib.hid (fun x h1 h2 => by omega)⟩
  case round =>
    obtain ⟨i, j, rfl, rfl, hi1, hij, hjb, hrow, hlo, hhi⟩ := hrel
    have HRow := Lib.hid hrow
    clear HR
    by_cases hlt : i < j
    · go_upto_region 17 with (fail)
      rw [show ((i : Int) + (j : Int)) / 2 = (((i + j) / 2 : Nat) : Int) by omega]
      obtain ⟨c, hc0, hc1, hc2⟩ : ∃ c, (i + j) / 2 = c ∧ i ≤ c ∧ c < j := ⟨_, rfl, by omega, by omega⟩
      rw [hc0]
      clear hc0
      obtain ⟨hk, cur, hg, hp⟩ := hrow
      have pA := hp m (by omega)
      have pB := hp c (by omega)
      have q1 := HIN.out m (by omega)
      have q2 := HIN.out c (by omega)
      clear hk hp
      generalize hA : f m = A at pA q1
      generalize hB : f c = B at pB q2
      have HA := Lib.hid hA
      have HB := Lib.hid hB
      clear hA hB
      have z1 : (c : Int) < (n : Int) := by omega
      have z2 : (m : Int) < (n : Int) := by omega
      have z3 : (0 : Int) ≤ (c : Int) := Int.natCast_nonneg _
      have z4 : (0 : Int) ≤ (m : Int) := Int.natCast_nonneg _
      refine draws_hid (by kernel_rfl) (by kernel_rfl) (by kernel_rfl) (fun W hW ops hops => ?_)
      subst hW
      clear hops
      have c0 : ∀ xl : Later W [], xl.w.cell? ⟨g, m, none⟩ = some (.int .i64 A) := fun xl => cell_of_block (Later.at0 hg xl) pA
      have d0 : ∀ xl : Later W [], xl.w.cell? ⟨g, c, none⟩ = some (.int .i64 B) := fun xl => cell_of_block (Later.at0 hg xl) pB
      repeat (refine walkT_step (fun K hK => ?_); go_simp; first | (refine hK _ _ ?_; clear hK K) | (refine ⟨_, fun xl => HKB.out xl.w A B (HRow.out.kept.grow (xl.h.below (Nat.le_refl _) (fun d hd => by cases hd))) q1 q2, ?_⟩; refine hK _ _ ?_; clear hK K))
      refine walkT_nil ?_
      intro w5 hc
      have HRow5 := Lib.hid (HRow.out.below hc.below)
      have hcn := cmpI_neg (key A) (key B)
      have HCN := Lib.hid hcn
      generalize cmpI (key A) (key B) = v at *
      clear c0 d0 hc hcn hg pA pB
      by_cases hneg : v < 0
      · have hnd : (!decide (v < 0)) = false := by rw [decide_eq_true hneg]; rfl
        rw [hnd]
        have hkl : key (f m) < key (f c) := by rw [HA.out, HB.out]; exact HCN.out.1 hneg
        have HH2 := Lib.hid (fun x (h1 : c ≤ x) (h2 : x < m) => show key (f m) < key (f x) by
          by_cases e : x = c
          · rw [e]; exact hkl
          · exact Int.lt_of_lt_of_le hkl (HSS.out c x (by omega) (by omega) h2))
        clear hkl
        go_wp2
        go_roundw
        case rel => exact ⟨i, c, rfl, rfl, hi1, by omega, by omega, HRow5.out, hlo, HH2⟩
        case measure => simp [intOf]; omega
      · have hnd : (!decide (v < 0)) = true := by rw [decide_eq_false hneg]; rfl
        rw [hnd]
        have hkl : key (f c) ≤ key (f m) := by have := HCN.out; rw [HA.out, HB.out]; omega
        have HL2 := Lib.hid (fun x (h1 : a ≤ x) (h2 : x < c + 1) => show key (f x) ≤ key (f m) by
          by_cases e : x = c
          · rw [e]; exact hkl
          · exact Int.le_trans (HSS.out x c h1 (by omega) (by omega)) hkl)
        clear hkl
        go_wp2
        go_roundw
        case rel => exact ⟨c + 1, j, by go_num, rfl, by omega, by omega, hjb, HRow5.out, HL2, hhi⟩
        case measure => simp [intOf]; omega
    · obtain rfl : i = j := by omega
      clear hrow
      obtain ⟨wo, rfl⟩ : ∃ wo : World, wo = wr := ⟨_, rfl⟩
      go_wp2
      go_loopw [17] (fun s17 wr => ∃ c : Nat, s17 = .int .i64 c ∧ i ≤ c ∧ c ≤ m ∧ RowAt w g n (downF c m f) wr ∧ Sw a (m + 1) f (downF c m f)) (fun s17 _ => (intOf s17).toNat)
      case atStart => exact ⟨m, rfl, hjb, Nat.le_refl _, by rw [downF_self]; exact HRow.out, by rw [downF_self]; exact .refl f⟩
      case round =>
        obtain ⟨c, rfl, hci, hcm, hrow, hsw⟩ := hrel
        have HRow := Lib.hid hrow
        have HSw := Lib.hid hsw
        clear hsw
        by_cases hlt : i < c
        · obtain ⟨d, rfl⟩ : ∃ d, c = d + 1 := ⟨c - 1, by omega⟩
          obtain ⟨hk, cur, hg, hp⟩ := hrow
          have pA := hp (d + 1) (by omega)
          have pB := hp d (by omega)
          clear hk hp
          generalize hF : downF (d + 1) m f = F at *
          generalize hA : F (d + 1) = A at *
          generalize hB : F d = B at *
          have HF := Lib.hid hF
          have HA := Lib.hid hA
          have HB := Lib.hid hB
          clear hA hB hF
          have s0 : wr.cell? ⟨g, (d + 1), none⟩ = some (.int .i64 A) := cell_of_block hg pA
          have s2 : wr.cell? ⟨g, d, none⟩ = some (.int .i64 B) := cell_of_block hg pB
          have sf : ∀ j, wr.frozen? ⟨g, j, none⟩ = false := fun j => free_of_block hg
          go_upto_region 23 with (fail)
          go_big_region
          have hsw2 := RowAt.swap HRow.out (i := d + 1) (j := d) (by omega) (by omega)
          rw [HA.out, HB.out] at hsw2
          have HS := Lib.hid hsw2
          clear hsw2 s0 s2 sf hg pA pB
          go_wp2
          go_roundw
          case rel => exact ⟨d, rfl, by omega, by omega, by rw [← downF_step d m f hcm, HF.out]; exact HS.out, by rw [← downF_step d m f hcm, HF.out]; exact .step (by omega) (by omega) (by omega) (by omega) HSw.out⟩
          case measure => simp [intOf]
        · obtain rfl : c = i := by omega
          have HA2 := Lib.hid (down_asc HSS.out hi1 hjb hlo.out hhi.out)
          clear hrow
          go_wp2
          go_end0
          exact ⟨rfl, _, HRow.out, HSw.out, HA2.out⟩
end Go.Proofs.Ytgmlaimlcccmhaa
