/-
  IS A LINK TAINTED, BY THE DOCUMENT: Tainted of snicketref29. CONDITIONS: the hierarchy may be; at most 13 ranks.
-/
import Derived.Test.YtgmlaimlcccmhaaNUnpack
import Derived.Test.YtgmlaimlcccmhaaNLinks
namespace Go.Proofs.Ytgmlaimlcccmhaa
open Go.RowKit Go.Proofs.Ytgmlaimlcccmhaa.Tame
set_option maxHeartbeats 400000

theorem unL_vtx {nr : Nat} {rk : Fn} {nl : Nat} {ls : Ls} (hM : MayP nr rk nl ls) : ∀ (d i : Nat), i < nl → ∀ v ∈ unL ls nl d i, Vtx nr v := by
  intro d
  induction d with
  | zero => intro i hi v hv; rw [List.mem_singleton.1 hv]; exact (hM.2.1 i hi).2.1
  | succ d ih =>
    intro i hi v hv
    by_cases hm : (ls i).m = -1
    · rw [unL_leaf hm] at hv; rw [List.mem_singleton.1 hv]; exact (hM.2.1 i hi).2.1
    · obtain ⟨ka, kb, H⟩ := hM.halves hi hm
      rw [unL_join hm H, List.mem_append] at hv
      rcases hv with hv | hv
      · exact ih ka H.ha v hv
      · exact ih kb H.hb v hv
def anyC (cf : Fl) (xs : List Int) (k : Nat) : Bool := (xs.take k).any (fun v => cf v.toNat)
theorem anyC_succ (cf : Fl) (xs : List Int) (k : Nat) (x : Int) (h : xs[k]? = some x) : anyC cf xs (k + 1) = (anyC cf xs k || cf x.toNat) := by
  unfold anyC
  rw [List.take_add_one, h, List.any_append]
  simp
theorem anyC_all (cf : Fl) (xs : List Int) : anyC cf xs xs.length = xs.any (fun v => cf v.toNat) := by unfold anyC; rw [List.take_length]
theorem add_at {b off j : Nat} : (⟨b, off, none⟩ : Addr).add j = ⟨b, off + j, none⟩ := by unfold Addr.add; split <;> simp_all
theorem owns_cell {w : World} {base g n cap : Nat} {xs : List Int} (h : w.ownsRow base 3 1 (.slice (some ⟨g, 0, none⟩) n cap) n (intsL xs)) {k : Nat} {x : Int} (hx : xs[k]? = some x) : w.cell? ⟨g, k, none⟩ = some (.int .i64 x) := by
  have := World.ownsRow.cells h rfl k (.int .i64 x) (by simp [intsL, hx])
  rw [add_at, Nat.zero_add] at this
  exact this
set_option maxRecDepth 100000 in
set_option maxHeartbeats 1000000 in
theorem tainted_any (pr : Option Addr) (nr cr : Nat) (pl : Option Addr) (nl cl : Nat) (pc : Option Addr) (cc i : Nat) (rk : Fn) (ls : Ls) (cf : Fl) (w : World) (hnr : nr ≤ 13) (hnl : nl ≤ 400) (hi : i < nl) (hl : LinksAt w pl nl ls) (hc : BoolsAt w pc nr cf) (hM : MayP nr rk nl ls) :
    Calls Try.prog 10 #[HV pr nr cr pl nl cl, .slice pc nr cc, .int .i64 i] w fun e w' => e = .returned (.bool (tnF cf ls nl nr i)) ∧ Below w.heap.size w w' := by
  have H1 := Lib.hid (fun (W : World) (h : Below w.heap.size w W) => unpack_any pr nr cr pl nl cl rk ls hnl hM nr i W hnr hi (hl.below h))
  have HV := Lib.hid (unL_vtx hM nr i hi)
  have hva := (hM.2.1 i hi).1
  have hlen := unL_len ls nl nr i
  have hlen2 : 2 ^ nr ≤ 2 ^ 13 := Nat.pow_le_pow_right (by omega) hnr
  unfold tnF
  generalize hxs : unL ls nl nr i = xs at H1 HV hlen ⊢
  clear hxs hM
  have hxl : xs.length ≤ 8192 := by omega
  clear hlen hlen2
  obtain ⟨b, off, rfl, hcl⟩ := hl (by omega)
  have HCI := Lib.hid (hcl i hi)
  clear hcl hl
  generalize ls i = A at HCI hva ⊢
  have HC := Lib.hid hc
  clear hc
  obtain ⟨a, ha⟩ : ∃ a : Nat, A.a = a := ⟨A.a.toNat, by have := hva.1; omega⟩
  have han : a < nr := by have := hva.2; omega
  clear hva
  rw [ha, Int.toNat_natCast]
  have HA := Lib.hid ha
  clear ha
  have z1 : (i : Int) < (nl : Int) := by omega
  have z2 : (0 : Int) ≤ (i : Int) := Int.natCast_nonneg _
  have z3 : (a : Int) < (nr : Int) := by omega
  generalize hca : cf a = ca
  have HCA := Lib.hid hca
  clear hca
  go_enter Try.func10, Try.ntmps10
  go_wp2_with fail
  refine (H1.out _ (by go_grown)).mono ?_
  rintro e w1 ⟨g, cg, rfl, hown, hb1⟩
  have HOW := Lib.hid hown
  have gB : BoxH w1 w.heap.size pr nr cr (some ⟨b, off, none⟩) nl cl := BoxH.below (heap_alloc_is rfl) hb1
  have hw1 := (by go_grown : Below w.heap.size w (w.alloc (.cells #[.slice pr nr cr, .slice (some ⟨b, off, none⟩) nl cl] 25))).trans (hb1.mono (by simp))
  have c1 : w1.cell? ⟨w.heap.size, 1, none⟩ = some (.slice (some ⟨b, off, none⟩) nl cl) := cell_of_block gB rfl
  have k0 : w1.cell? ⟨b, off + i * 4, none⟩ = some (.int .i64 a) := by rw [← HA.out]; exact (HCI.out.below hw1).1
  obtain ⟨bc, oc, rfl, hcc⟩ := HC.out.below hw1 (by omega)
  have l0 := hcc a han
  rw [HCA.out] at l0
  have HCC := Lib.hid hcc
  clear hcc hb1 hown gB H1
  go_wp2_with fail
  clear c1 k0 l0
  go_loop [8, 9] (fun s8 s9 => ∃ (k : Nat) (v : Bool), s8 = .bool v ∧ s9 = .int .i64 k ∧ k ≤ xs.length ∧ Hid (v = (ca || anyC cf xs k))) (fun _ s9 => xs.length - (intOf s9).toNat)
  case atStart => exact ⟨0, ca, rfl, rfl, by omega, Lib.hid (by unfold anyC; simp)⟩
  case round =>
    obtain ⟨k, v, rfl, rfl, hk, hv⟩ := hrel
    by_cases hlt : k < xs.length
    · obtain ⟨x, hx⟩ : ∃ x, xs[k]? = some x := ⟨xs[k], List.getElem?_eq_getElem hlt⟩
      have hc0 := owns_cell HOW.out hx
      have hvx := HV.out x (List.mem_of_getElem? hx)
      have HS := Lib.hid (anyC_succ cf xs k x hx)
      obtain ⟨x, rfl⟩ : ∃ j : Nat, x = j := ⟨x.toNat, by have := hvx.1; omega⟩
      have hxn : x < nr := by have := hvx.2; omega
      clear hvx hx
      have l1 := HCC.out x hxn
      have z4 : (x : Int) < (nr : Int) := by omega
      have z5 : (0 : Int) ≤ (x : Int) := Int.natCast_nonneg _
      generalize hcx : cf x = cx at l1
      have HCX := Lib.hid hcx
      clear hcx
      cases v with
      | true =>
        have HN := Lib.hid (show true = (ca || anyC cf xs (k + 1)) by rw [HS.out, ← Bool.or_assoc, ← hv.out]; rfl)
        go_wp2_with fail
        go_round
        case rel => exact ⟨k + 1, true, rfl, by go_num, hlt, HN⟩
        case measure => simp [intOf]; omega
      | false =>
        have HN := Lib.hid (show cx = (ca || anyC cf xs (k + 1)) by rw [HS.out, ← Bool.or_assoc, ← hv.out, Int.toNat_natCast, HCX.out]; rfl)
        go_wp2_with fail
        go_round
        case rel => exact ⟨k + 1, cx, rfl, by go_num, hlt, HN⟩
        case measure => simp [intOf]; omega
    · obtain rfl : k = xs.length := by omega
      have HN := Lib.hid (show v = (ca || xs.any (fun v => cf v.toNat)) by rw [hv.out, anyC_all])
      go_wp2_with fail
      go_ret
      exact ⟨ret_bool HN.out, hw1⟩
end Go.Proofs.Ytgmlaimlcccmhaa
