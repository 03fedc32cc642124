/-
  LINKS THAT MAY BE: hier.sorted. CONDITIONS: stated.
-/
import Derived.Test.YtgmlaimlcccmhaaNCmp
import Derived.Test.YtgmlaimlcccmhaaNRanks
namespace Go.Proofs.Ytgmlaimlcccmhaa
open Go.RowKit Go.Proofs.Ytgmlaimlcccmhaa.Tame
set_option maxHeartbeats 400000

theorem ordI_neg (a b x y : Int) : ordI a b x y < 0 ↔ (a < x ∨ (a = x ∧ b < y)) := by
  unfold ordI orI cmpI
  by_cases h1 : a < x
  · simp [h1]
  · by_cases h2 : x < a
    · have : ¬ a = x := by omega
      simp [h1, h2, this]
    · have h3 : a = x := by omega
      subst h3
      by_cases h4 : b < y
      · simp [h4]
      · by_cases h5 : y < b <;> simp [h4, h5]
theorem ordI_zero (a b x y : Int) : ordI a b x y = 0 ↔ (a = x ∧ b = y) := by
  unfold ordI orI cmpI
  by_cases h1 : a < x
  · have : ¬ a = x := by omega
    simp [h1, this]
  · by_cases h2 : x < a
    · have : ¬ a = x := by omega
      simp [h1, h2, this]
    · have h3 : a = x := by omega
      subst h3
      by_cases h4 : b < y
      · have : ¬ b = y := by omega
        simp [h4, this]
      · by_cases h5 : y < b
        · have : ¬ b = y := by omega
          simp [h4, h5, this]
        · have : b = y := by omega
          simp [this]
theorem vertex_yes (pr : Option Addr) (nr cr : Nat) (pl : Option Addr) (nl cl : Nat) (v : Int) (w : World) (h : Vtx nr v) :
    Calls Try.prog 26 #[HV pr nr cr pl nl cl, .int .i64 v] w fun e w' => e = .returned (.bool true) ∧ Below w.heap.size w w' := by
  have := vertex_any pr nr cr pl nl cl v w
  rwa [bOf_yes h] at this
theorem vertex_no (pr : Option Addr) (nr cr : Nat) (pl : Option Addr) (nl cl : Nat) (v : Int) (w : World) (h : ¬ Vtx nr v) :
    Calls Try.prog 26 #[HV pr nr cr pl nl cl, .int .i64 v] w fun e w' => e = .returned (.bool false) ∧ Below w.heap.size w w' := by
  have := vertex_any pr nr cr pl nl cl v w
  rwa [bOf_no h] at this

def LtL (x y : Lk) : Prop := x.a < y.a ∨ (x.a = y.a ∧ x.b < y.b)
def LkOK (nr : Nat) (ls : Ls) (i : Nat) : Prop := Vtx nr (ls i).a ∧ Vtx nr (ls i).b ∧ (ls i).a ≠ (ls i).b ∧ 0 ≤ (ls i).w ∧ (ls i).w ≤ 1152921504606846976 ∧ (0 < i → LtL (ls (i - 1)) (ls i))
def SortOK (nr nl : Nat) (ls : Ls) : Prop := ∀ i, i < nl → LkOK nr ls i
/-- Block b holds a hierarchy's two slices. -/
def BoxH (w : World) (b : Nat) (pr : Option Addr) (nr cr : Nat) (pl : Option Addr) (nl cl : Nat) : Prop := w.heap[b]? = some (.cells #[.slice pr nr cr, .slice pl nl cl] 25 (0, 0))
theorem BoxH.below {w w' : World} {b : Nat} {pr : Option Addr} {nr cr : Nat} {pl : Option Addr} {nl cl : Nat} (h : BoxH w b pr nr cr pl nl cl) (hb : Below w.heap.size w w') : BoxH w' b pr nr cr pl nl cl := keep2 hb h


set_option maxRecDepth 100000 in
set_option maxHeartbeats 2000000 in
theorem sorted_any (pr : Option Addr) (nr cr : Nat) (pl : Option Addr) (nl cl : Nat) (ls : Ls) (w : World) (hnl : nl ≤ 400) (hl : LinksAt w pl nl ls) :
    Calls Try.prog 18 #[HV pr nr cr pl nl cl] w fun e w' => e = .returned (.bool (bOf (SortOK nr nl ls))) ∧ Below w.heap.size w w' := by
  have HL := Lib.hid hl
  clear hl
  generalize hv : bOf (SortOK nr nl ls) = v
  have HV := Lib.hid hv
  clear hv
  go_enter Try.func18, Try.ntmps18
  go_wp2_with fail
  go_loopw [8] (fun s8 wr => ∃ i : Nat, s8 = .int .i64 i ∧ i ≤ nl ∧ Below w.heap.size w wr ∧ BoxH wr w.heap.size pr nr cr pl nl cl ∧ Hid (∀ j, j < i → LkOK nr ls j)) (fun s8 _ => nl - (intOf s8).toNat)
  case atStart => exact ⟨0, rfl, by omega, by go_grown, heap_alloc_is rfl, Lib.hid (fun j hj => absurd hj (Nat.not_lt_zero _))⟩
  case round =>
    obtain ⟨i, rfl, hi, hb, hbox, hok⟩ := hrel
    have HBX := Lib.hid hbox
    clear hbox
    by_cases hlt : i < nl
    · obtain ⟨b, off, rfl, hc⟩ := HL.out.below hb (by omega)
      have hci := hc i hlt
      have HCI := Lib.hid hc
      clear hc
      generalize hA : ls i = A at hci
      have HA := Lib.hid hA
      clear hA
      obtain ⟨c0, c1, c2, c3⟩ := hci
      have hbl := World.block_lt_of_cell? wr _ c0
      simp only at hbl
      have hbx : w.heap.size < wr.heap.size := lt_of_some HBX.out
      have z1 : (i : Int) < (nl : Int) := by omega
      have z2 : (0 : Int) ≤ (i : Int) := Int.natCast_nonneg _
      go_upto_region 4 with (fail)
      refine plain_hid (fun W hW ops hops => ?_)
      have hbW : Below w.heap.size w W := by rw [hW]; exact hb.alloc hb.size _
      have gX : W.heap[wr.heap.size]? = some (.cells #[.int .i64 A.a, .int .i64 A.b, .int .i64 A.w, .int .i64 A.m] 40) := by rw [hW]; exact heap_alloc_is rfl
      have gB : W.heap[w.heap.size]? = some (.cells #[.slice pr nr cr, .slice (some ⟨b, off, none⟩) nl cl] 25 (0, 0)) := by rw [hW]; exact heap_alloc_lt HBX.out
      have hcW := Lib.hid (show ∀ j, j < nl → LkIn W b (off + j * 4) (ls j) from fun j hj => by rw [hW]; exact (HCI.out j hj).below (by go_grown))
      clear hW c0 c1 c2 c3 HCI HBX
      have o5 : (ops[5]?).bind (fun x => x.dst) = some 18 := by rw [hops]; rfl
      have o12 : (ops[12]?).bind (fun x => x.dst) = some 25 := by rw [hops]; rfl
      have o19 : (ops[19]?).bind (fun x => x.dst) = some 32 := by rw [hops]; rfl
      have o24 : (ops[24]?).bind (fun x => x.dst) = some 37 := by rw [hops]; rfl
      clear hops
      have f0 : ∀ xl : Later W [], xl.w.cell? ⟨w.heap.size, 0, none⟩ = some (.slice pr nr cr) := fun xl => cell_of_block (Later.at0 gB xl) rfl
      have f1 : ∀ xl : Later W [], xl.w.cell? ⟨w.heap.size, 1, none⟩ = some (.slice (some ⟨b, off, none⟩) nl cl) := fun xl => cell_of_block (Later.at0 gB xl) rfl
      have f2 : ∀ xl : Later W [], xl.w.cell? ⟨wr.heap.size, 0, none⟩ = some (.int .i64 A.a) := fun xl => cell_of_block (Later.at0 gX xl) rfl
      have f3 : ∀ xl : Later W [], xl.w.cell? ⟨wr.heap.size, 1, none⟩ = some (.int .i64 A.b) := fun xl => cell_of_block (Later.at0 gX xl) rfl
      have f4 : ∀ xl : Later W [], xl.w.cell? ⟨wr.heap.size, 2, none⟩ = some (.int .i64 A.w) := fun xl => cell_of_block (Later.at0 gX xl) rfl
      by_cases h1 : Vtx nr A.a
      · by_cases h2 : Vtx nr A.b
        · by_cases h3 : A.a = A.b
          · have h3b : (A.a == A.b) = true := beq_iff_eq.2 h3
            have HV2 := Lib.hid (show false = v by rw [← HV.out, bOf_no (fun h => by have h' := h i hlt; unfold LkOK at h'; rw [HA.out] at h'; exact h'.2.2.1 h3)])
            clear h3
            repeat (refine walkT_step (fun K hK => ?_); go_simp; first | (refine hK _ _ ?_; clear hK K) | (refine ⟨_, fun xl => vertex_yes _ _ _ _ _ _ _ _ ‹_›, ?_⟩; refine hK _ _ ?_; clear hK K) | (refine ⟨_, fun xl => vertex_no _ _ _ _ _ _ _ _ ‹_›, ?_⟩; refine hK _ _ ?_; clear hK K))
            refine walkT_nil ?_
            intro w5 hc
            have hb5 := hbW.trans (hc.below.mono hbW.size)
            clear hc f0 f1 f2 f3 f4 o5 o12 o19 o24 gX gB hcW
            go_wp2_with fail
            go_ret
            exact ⟨ret_bool HV2.out, hb5⟩
          · have h3b : (A.a == A.b) = false := beq_eq_false_iff_ne.2 h3
            have HNE := Lib.hid h3
            clear h3
            by_cases h4 : 0 ≤ A.w
            · by_cases h5 : A.w ≤ 1152921504606846976
              · repeat (refine walkT_step (fun K hK => ?_); go_simp; first | (refine hK _ _ ?_; clear hK K) | (refine ⟨_, fun xl => vertex_yes _ _ _ _ _ _ _ _ ‹_›, ?_⟩; refine hK _ _ ?_; clear hK K) | (refine ⟨_, fun xl => vertex_no _ _ _ _ _ _ _ _ ‹_›, ?_⟩; refine hK _ _ ?_; clear hK K))
                refine walkT_nil ?_
                intro w5 hc
                have hb5 := hbW.trans (hc.below.mono hbW.size)
                replace gX := hc.at0 gX
                replace gB := hc.at0 gB
                have hc5 := Lib.hid (fun j (hj : j < nl) => (hcW.out j hj).below hc.below)
                have hXs : wr.heap.size < w5.heap.size := lt_of_some gX
                clear hc f0 f1 f2 f3 f4 o5 o12 o19 o24 hcW
                go_upto_region 6 with (fail)
                cases i with
                | zero =>
                  have z5 : ¬ ((0 : Int) < ((0 : Nat) : Int)) := by omega
                  refine draws_hid (by kernel_rfl) (by kernel_rfl) (by kernel_rfl) (fun W hW ops hops => ?_)
                  subst hW
                  have o2 : (ops[2]?).bind (fun x => x.dst) = some 44 := by rw [hops]; rfl
                  clear hops
                  repeat (refine walkT_step (fun K hK => ?_); go_simp; first | (refine hK _ _ ?_; clear hK K))
                  refine walkT_nil ?_
                  intro w6 hc
                  have hb6 := hb5.trans (hc.below.mono hb5.size)
                  have hBX6 := Lib.hid (hc.at0 gB)
                  clear hc o2 gX gB
                  have HOK := Lib.hid (fun j (hj : j < 0 + 1) => show LkOK nr ls j by
                    have e : j = 0 := by omega
                    subst e
                    unfold LkOK
                    rw [HA.out]
                    exact ⟨h1, h2, HNE.out, h4, h5, fun h => absurd h (Nat.lt_irrefl _)⟩)
                  go_wp2_with fail
                  go_roundw
                  case rel => exact ⟨1, rfl, hlt, hb6, hBX6.out, HOK⟩
                  case measure => simp [intOf]; omega
                | succ ip =>
                  have hcp := hc5.out ip (by omega)
                  generalize hB : ls ip = B at hcp
                  have HB := Lib.hid hB
                  clear hB
                  generalize ho : ordI B.a B.b A.a A.b = o
                  have HO := Lib.hid ho
                  clear ho
                  have hwp : IntKind.i64.wrap (ip : Int) = (ip : Int) := IntWalk.i64_in _ (by omega)
                  have z5 : (0 : Int) < (ip : Int) + 1 := by omega
                  have z7 : (ip : Int) < (nl : Int) := by omega
                  have z8 : (0 : Int) ≤ (ip : Int) := Int.natCast_nonneg _
                  have hON := Lib.hid (ordI_neg B.a B.b A.a A.b)
                  refine draws_hid (by kernel_rfl) (by kernel_rfl) (by kernel_rfl) (fun W hW ops hops => ?_)
                  subst hW
                  have o2 : (ops[2]?).bind (fun x => x.dst) = some 44 := by rw [hops]; rfl
                  clear hops
                  have f1 : ∀ xl : Later W [], xl.w.cell? ⟨w.heap.size, 1, none⟩ = some (.slice (some ⟨b, off, none⟩) nl cl) := fun xl => cell_of_block (Later.at0 gB xl) rfl
                  have f2 : ∀ xl : Later W [], xl.w.cell? ⟨wr.heap.size, 0, none⟩ = some (.int .i64 A.a) := fun xl => cell_of_block (Later.at0 gX xl) rfl
                  have f3 : ∀ xl : Later W [], xl.w.cell? ⟨wr.heap.size, 1, none⟩ = some (.int .i64 A.b) := fun xl => cell_of_block (Later.at0 gX xl) rfl
                  have k0 : ∀ xl : Later W [], xl.w.cell? ⟨b, off + ip * 4, none⟩ = some (.int .i64 B.a) := fun xl => cell_later (xl.h.below (Nat.le_refl _) (fun d hd => by cases hd)) hcp.1
                  have k1 : ∀ xl : Later W [], xl.w.cell? ⟨b, off + ip * 4 + 1, none⟩ = some (.int .i64 B.b) := fun xl => cell_later (xl.h.below (Nat.le_refl _) (fun d hd => by cases hd)) hcp.2.1
                  have k2 : ∀ xl : Later W [], xl.w.cell? ⟨b, off + ip * 4 + 2, none⟩ = some (.int .i64 B.w) := fun xl => cell_later (xl.h.below (Nat.le_refl _) (fun d hd => by cases hd)) hcp.2.2.1
                  have k3 : ∀ xl : Later W [], xl.w.cell? ⟨b, off + ip * 4 + 3, none⟩ = some (.int .i64 B.m) := fun xl => cell_later (xl.h.below (Nat.le_refl _) (fun d hd => by cases hd)) hcp.2.2.2
                  repeat (refine walkT_step (fun K hK => ?_); go_simp; first | (refine hK _ _ ?_; clear hK K) | (refine ⟨_, fun xl => order_any _ _ _ _ _ _ _, ?_⟩; refine hK _ _ ?_; clear hK K))
                  refine walkT_nil ?_
                  intro w6 hc
                  have hb6 := hb5.trans (hc.below.mono hb5.size)
                  have hBX6 := Lib.hid (hc.at0 gB)
                  clear hc o2 gX gB f1 f2 f3 k0 k1 k2 k3 hcp hc5 hwp
                  rw [HO.out]
                  by_cases hneg : o < 0
                  · have HOK := Lib.hid (fun j (hj : j < ip + 1 + 1) => show LkOK nr ls j by
                      by_cases e : j = ip + 1
                      · subst e
                        unfold LkOK
                        rw [HA.out, Nat.add_sub_cancel, HB.out]
                        exact ⟨h1, h2, HNE.out, h4, h5, fun _ => hON.out.1 (by rw [HO.out]; exact hneg)⟩
                      · exact hok.out j (by omega))
                    have hd : decide (0 ≤ o) = false := decide_eq_false (by omega)
                    rw [hd]
                    go_wp2_with fail
                    go_roundw
                    case rel => exact ⟨ip + 1 + 1, by go_num, hlt, hb6, hBX6.out, HOK⟩
                    case measure => simp [intOf]; omega
                  · have HV2 := Lib.hid (show false = v by rw [← HV.out, bOf_no (fun h => by have h' := (h (ip + 1) hlt).2.2.2.2.2 (by omega); rw [HA.out, Nat.add_sub_cancel, HB.out] at h'; have := hON.out.2 h'; rw [HO.out] at this; exact hneg this)])
                    have hd : decide (0 ≤ o) = true := decide_eq_true (by omega)
                    rw [hd]
                    go_wp2_with fail
                    go_ret
                    exact ⟨ret_bool HV2.out, hb6⟩
              · have h5b : (1152921504606846976 : Int) < A.w := by omega
                have HV2 := Lib.hid (show false = v by rw [← HV.out, bOf_no (fun h => by have h' := h i hlt; unfold LkOK at h'; rw [HA.out] at h'; exact h5 h'.2.2.2.2.1)])
                repeat (refine walkT_step (fun K hK => ?_); go_simp; first | (refine hK _ _ ?_; clear hK K) | (refine ⟨_, fun xl => vertex_yes _ _ _ _ _ _ _ _ ‹_›, ?_⟩; refine hK _ _ ?_; clear hK K) | (refine ⟨_, fun xl => vertex_no _ _ _ _ _ _ _ _ ‹_›, ?_⟩; refine hK _ _ ?_; clear hK K))
                refine walkT_nil ?_
                intro w5 hc
                have hb5 := hbW.trans (hc.below.mono hbW.size)
                clear hc f0 f1 f2 f3 f4 o5 o12 o19 o24 gX gB hcW
                go_wp2_with fail
                go_ret
                exact ⟨ret_bool HV2.out, hb5⟩
            · have h4b : A.w < 0 := by omega
              have HV2 := Lib.hid (show false = v by rw [← HV.out, bOf_no (fun h => by have h' := h i hlt; unfold LkOK at h'; rw [HA.out] at h'; exact h4 h'.2.2.2.1)])
              repeat (refine walkT_step (fun K hK => ?_); go_simp; first | (refine hK _ _ ?_; clear hK K) | (refine ⟨_, fun xl => vertex_yes _ _ _ _ _ _ _ _ ‹_›, ?_⟩; refine hK _ _ ?_; clear hK K) | (refine ⟨_, fun xl => vertex_no _ _ _ _ _ _ _ _ ‹_›, ?_⟩; refine hK _ _ ?_; clear hK K))
              refine walkT_nil ?_
              intro w5 hc
              have hb5 := hbW.trans (hc.below.mono hbW.size)
              clear hc f0 f1 f2 f3 f4 o5 o12 o19 o24 gX gB hcW
              go_wp2_with fail
              go_ret
              exact ⟨ret_bool HV2.out, hb5⟩
        · have h2k := h2
          have HV2 := Lib.hid (show false = v by rw [← HV.out, bOf_no (fun h => by have h' := h i hlt; unfold LkOK at h'; rw [HA.out] at h'; exact h2 h'.2.1)])
          repeat (refine walkT_step (fun K hK => ?_); go_simp; first | (refine hK _ _ ?_; clear hK K) | (refine ⟨_, fun xl => vertex_yes _ _ _ _ _ _ _ _ ‹_›, ?_⟩; refine hK _ _ ?_; clear hK K) | (refine ⟨_, fun xl => vertex_no _ _ _ _ _ _ _ _ ‹_›, ?_⟩; refine hK _ _ ?_; clear hK K))
          refine walkT_nil ?_
          intro w5 hc
          have hb5 := hbW.trans (hc.below.mono hbW.size)
          clear hc f0 f1 f2 f3 f4 o5 o12 o19 o24 gX gB hcW
          go_wp2_with fail
          go_ret
          exact ⟨ret_bool HV2.out, hb5⟩
      · have h1k := h1
        have HV2 := Lib.hid (show false = v by rw [← HV.out, bOf_no (fun h => by have h' := h i hlt; unfold LkOK at h'; rw [HA.out] at h'; exact h1 h'.1)])
        repeat (refine walkT_step (fun K hK => ?_); go_simp; first | (refine hK _ _ ?_; clear hK K) | (refine ⟨_, fun xl => vertex_yes _ _ _ _ _ _ _ _ ‹_›, ?_⟩; refine hK _ _ ?_; clear hK K) | (refine ⟨_, fun xl => vertex_no _ _ _ _ _ _ _ _ ‹_›, ?_⟩; refine hK _ _ ?_; clear hK K))
        refine walkT_nil ?_
        intro w5 hc
        have hb5 := hbW.trans (hc.below.mono hbW.size)
        clear hc f0 f1 f2 f3 f4 o5 o12 o19 o24 gX gB hcW
        go_wp2_with fail
        go_ret
        exact ⟨ret_bool HV2.out, hb5⟩
    · obtain rfl : i = nl := by omega
      have HV2 := Lib.hid (show true = v by rw [← HV.out, bOf_yes (show SortOK nr i ls from hok.out)])
      go_wp2_with fail
      go_ret
      exact ⟨ret_bool HV2.out, hb⟩
end Go.Proofs.Ytgmlaimlcccmhaa
