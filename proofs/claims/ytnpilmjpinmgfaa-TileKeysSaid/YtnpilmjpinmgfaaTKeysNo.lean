/-
  THE LAW OF KEYS, WALKED: a tile that may not be. CONDITIONS: the key has at most 100 bytes.
-/
import Derived.Test.YtnpilmjpinmgfaaTKeysBase
import Derived.Test.YtnpilmjpinmgfaaKit
import Derived.Lib.Hide
namespace Go.Proofs.Ytnpilmjpinmgfaa
open Go.RowKit Go.Proofs.Ytnpilmjpinmgfaa.Tame
set_option maxHeartbeats 400000
set_option maxRecDepth 100000 in
set_option maxHeartbeats 40000000 in
theorem tilekeys_no (z x y a b c f : Int) (s : ByteArray) (w : World) (h100 : s.size ≤ 100) (HP : Hid (Parsed s a b c f)) (ht : Hid (tilB z x y = false)) :
    Calls Try.prog 5 #[.agg #[.int .i64 z, .int .i64 x, .int .i64 y], .string s] w fun e w' => e = .returned (.bool true) ∧ Below w.heap.size w w' := by
  go_enter Try.func5, Try.ntmps5
  go_wp2_with fail
  refine (tkey_no z x y _ ht).mono ?_
  rintro e w1 ⟨rfl, hb1⟩
  have hw1 : Below w.heap.size w w1 := (by go_grown : Below w.heap.size w (w.alloc (.cells #[.int .i64 z, .int .i64 x, .int .i64 y] 25))).trans (hb1.mono (by simp))
  have gt1 : w1.heap[w.heap.size]? = some (.cells #[.int .i64 z, .int .i64 x, .int .i64 y] 25) := keep' hb1 (heap_alloc_is rfl)
  clear hb1
  go_wp2_with fail
  refine (parse_any s _ (by omega)).mono ?_
  rintro e w2 ⟨rfl, hb2⟩
  rw [HP.out.val]
  have hw2 := hw1.trans (hb2.mono hw1.size)
  have gt2 := keep' hb2 gt1
  have hl2 := lt_of_some gt2
  clear hb2 gt1 hw1
  go_upto_region 5 with (fail)
  go_cut [46] (fun s46 wx => s46 = .bool false ∧ Below w.heap.size w wx ∧ wx.heap[w.heap.size]? = some (.cells #[.int .i64 z, .int .i64 x, .int .i64 y] 25) ∧ wx.heap[w2.heap.size]? = some (.cells #[.int .i64 a, .int .i64 b, .int .i64 c] 25))
  case first =>
    as_aux_lemma =>
      have hw := hw2.alloc hw2.size (.cells #[.int .i64 a, .int .i64 b, .int .i64 c] 25)
      cases hr : rightB s
      · obtain ⟨rfl, rfl, rfl, rfl⟩ := HP.out.no hr
        clear hr
        go_wp2_with fail
        go_meet
        exact ⟨rfl, hw, heap_alloc_lt gt2, heap_alloc_is rfl⟩
      · obtain ⟨rfl, hx1, hx2⟩ := HP.out.yes hr
        clear hr
        have Hx1 := Lib.hid hx1
        have Hx2 := Lib.hid hx2
        clear hx1 hx2
        go_wp2_with fail
        refine (reftile_any a b c _).mono ?_
        rintro e w3 ⟨rfl, hb3⟩
        rw [Hx1.out]
        have hw3 := hw.trans (hb3.mono hw.size)
        have gt3 := keep' hb3 (heap_alloc_lt gt2)
        have gx3 := keep' hb3 (heap_alloc_is rfl)
        clear hb3
        have c0 : w3.cell? ⟨w2.heap.size, 0, none⟩ = some (.int .i64 a) := cell_of_block gx3 rfl
        have c1 : w3.cell? ⟨w2.heap.size, 1, none⟩ = some (.int .i64 b) := cell_of_block gx3 rfl
        have c2 : w3.cell? ⟨w2.heap.size, 2, none⟩ = some (.int .i64 c) := cell_of_block gx3 rfl
        go_wp2_with fail
        refine (refkey_c a b c _ Hx1.out).mono ?_
        rintro e w4 ⟨rfl, hb4⟩
        rw [Hx2.out]
        go_wp2_with fail
        go_meet
        exact ⟨rfl, hw3.trans (hb4.mono hw3.size), keep' hb4 gt3, keep' hb4 gx3⟩
  case rest =>
    obtain ⟨rfl, hb, gt, gx⟩ := hcut
    clear hw2 gt2 hl2
    go_wp2_with fail
    go_loop [9, 10] (fun s9 s10 => ∃ k : Nat, k ≤ s.size ∧ s10 = .int .i64 k ∧ s9 = .bool (rightK s k)) (fun _ s10 => s.size - (intOf s10).toNat)
    case atStart =>
      refine ⟨0, Nat.zero_le _, rfl, ?_⟩
      unfold rightK
      by_cases h29 : s.size ≤ 29
      · have : (s.size : Int) ≤ 29 := by omega
        simp [h29, this]
      · have : ¬ (s.size : Int) ≤ 29 := by omega
        simp [h29, this]
    case round =>
      obtain ⟨k, hk, rfl, rfl⟩ := hrel
      by_cases hlt : k < s.size
      · have hsn := rightK_snoc s k hlt
        have Hsn := Lib.hid hsn
        clear hsn
        have HR := Lib.hid (rfl : rightK s k = rightK s k)
        cases hrk : rightK s k
        · go_wp2
          go_round
          case rel => exact ⟨k + 1, hlt, by go_num, congrArg Value.bool (by rw [Hsn.out, hrk]; rfl)⟩
          case measure => simp [intOf]; omega
        · by_cases h48 : 48 ≤ s[k].toNat
          · go_wp2
            go_round
            case rel => exact ⟨k + 1, hlt, by go_num, congrArg Value.bool (by rw [Hsn.out, hrk]; simp [h48]; try omega)⟩
            case measure => simp [intOf]; omega
          · go_wp2
            go_round
            case rel => exact ⟨k + 1, hlt, by go_num, congrArg Value.bool (by rw [Hsn.out, hrk]; simp [h48]; try omega)⟩
            case measure => simp [intOf]; omega
      · obtain rfl : k = s.size := by omega
        have e9 : rightK s s.size = rightB s := rfl
        rw [e9]
        clear e9 hk hlt
        generalize hrr : rightB s = r
        have Hr := Lib.hid hrr
        clear hrr
        go_upto_region 12 with (fail)
        go_cut [95] (fun s95 wx => s95 = .bool false ∧ Below w.heap.size w wx ∧ wx.heap[w.heap.size]? = some (.cells #[.int .i64 z, .int .i64 x, .int .i64 y] 25))
        case first =>
          have ht' := ht.out
          cases r
          · obtain ⟨rfl, rfl, rfl, rfl⟩ := HP.out.no Hr.out
            refine draws_hid (by kernel_rfl) (by kernel_rfl) (by kernel_rfl) (fun W hW ops hops => ?_)
            subst hW
            have o4 : (ops[4]?).bind (fun x => x.dst) = some 73 := by rw [hops]; rfl
            have o11 : (ops[11]?).bind (fun x => x.dst) = some 80 := by rw [hops]; rfl
            have o14 : (ops[14]?).bind (fun x => x.dst) = some 83 := by rw [hops]; rfl
            have o20 : (ops[20]?).bind (fun x => x.dst) = some 89 := by rw [hops]; rfl
            clear hops
            have t0 : ∀ xl : Later W [], xl.w.cell? ⟨w.heap.size, 0, none⟩ = some (.int .i64 z) := fun xl => cell_of_block (Later.at0 gt xl) rfl
            have t1 : ∀ xl : Later W [], xl.w.cell? ⟨w.heap.size, 1, none⟩ = some (.int .i64 x) := fun xl => cell_of_block (Later.at0 gt xl) rfl
            have t2 : ∀ xl : Later W [], xl.w.cell? ⟨w.heap.size, 2, none⟩ = some (.int .i64 y) := fun xl => cell_of_block (Later.at0 gt xl) rfl
            have c0 : ∀ xl : Later W [], xl.w.cell? ⟨w2.heap.size, 0, none⟩ = some (.int .i64 0) := fun xl => cell_of_block (Later.at0 gx xl) rfl
            have c1 : ∀ xl : Later W [], xl.w.cell? ⟨w2.heap.size, 1, none⟩ = some (.int .i64 0) := fun xl => cell_of_block (Later.at0 gx xl) rfl
            have c2 : ∀ xl : Later W [], xl.w.cell? ⟨w2.heap.size, 2, none⟩ = some (.int .i64 0) := fun xl => cell_of_block (Later.at0 gx xl) rfl
            repeat (refine walkT_step (fun K hK => ?_); go_simp; first | (refine hK _ _ ?_; clear hK K) | (refine ⟨_, fun xl => tile_any _ _ _ _, ?_⟩; refine hK _ _ ?_; clear hK K) | (refine ⟨_, fun xl => reftile_any _ _ _ _, ?_⟩; refine hK _ _ ?_; clear hK K))
            refine walkT_nil ?_
            intro w5 hc
            have hw5 := hb.trans (hc.below.mono hb.size)
            have gt5 := hc.at0 gt
            clear t0 t1 t2 c0 c1 c2 hc
            go_wp2_with fail
            go_meet
            exact ⟨rfl, hw5, gt5⟩
          · obtain ⟨rfl, hx1, hx2⟩ := HP.out.yes Hr.out
            clear hx1 hx2
            as_aux_lemma =>
              refine draws_hid (by kernel_rfl) (by kernel_rfl) (by kernel_rfl) (fun W hW ops hops => ?_)
              subst hW
              have o4 : (ops[4]?).bind (fun x => x.dst) = some 73 := by rw [hops]; rfl
              have o11 : (ops[11]?).bind (fun x => x.dst) = some 80 := by rw [hops]; rfl
              have o14 : (ops[14]?).bind (fun x => x.dst) = some 83 := by rw [hops]; rfl
              have o20 : (ops[20]?).bind (fun x => x.dst) = some 89 := by rw [hops]; rfl
              clear hops
              have t0 : ∀ xl : Later W [], xl.w.cell? ⟨w.heap.size, 0, none⟩ = some (.int .i64 z) := fun xl => cell_of_block (Later.at0 gt xl) rfl
              have t1 : ∀ xl : Later W [], xl.w.cell? ⟨w.heap.size, 1, none⟩ = some (.int .i64 x) := fun xl => cell_of_block (Later.at0 gt xl) rfl
              have t2 : ∀ xl : Later W [], xl.w.cell? ⟨w.heap.size, 2, none⟩ = some (.int .i64 y) := fun xl => cell_of_block (Later.at0 gt xl) rfl
              repeat (refine walkT_step (fun K hK => ?_); go_simp; first | (refine hK _ _ ?_; clear hK K) | (refine ⟨_, fun xl => tile_any _ _ _ _, ?_⟩; refine hK _ _ ?_; clear hK K) | (refine ⟨_, fun xl => reftile_any _ _ _ _, ?_⟩; refine hK _ _ ?_; clear hK K))
              refine walkT_nil ?_
              intro w5 hc
              have hw5 := hb.trans (hc.below.mono hb.size)
              have gt5 := hc.at0 gt
              clear t0 t1 t2 hc
              go_wp2_with fail
              go_meet
              exact ⟨rfl, hw5, gt5⟩
        case rest =>
          obtain ⟨rfl, hb', gt'⟩ := hcut
          clear hb gt gx HP h100 Hr
          as_aux_lemma =>
            have hl' := lt_of_some gt'
            have t0 : wc.cell? ⟨w.heap.size, 0, none⟩ = some (.int .i64 z) := cell_of_block gt' rfl
            have t1 : wc.cell? ⟨w.heap.size, 1, none⟩ = some (.int .i64 x) := cell_of_block gt' rfl
            have t2 : wc.cell? ⟨w.heap.size, 2, none⟩ = some (.int .i64 y) := cell_of_block gt' rfl
            go_wp2_with fail
            refine (up_no z x y _ false ht (.inl rfl)).mono ?_
            rintro e w6 ⟨rfl, hb6⟩
            have gt6 := keep' hb6 gt'
            have hw6 := hb'.trans (hb6.mono hb'.size)
            have hl6 := lt_of_some gt6
            clear t0 t1 t2 gt' hb' hb6 hl'
            have t0 : w6.cell? ⟨w.heap.size, 0, none⟩ = some (.int .i64 z) := cell_of_block gt6 rfl
            have t1 : w6.cell? ⟨w.heap.size, 1, none⟩ = some (.int .i64 x) := cell_of_block gt6 rfl
            have t2 : w6.cell? ⟨w.heap.size, 2, none⟩ = some (.int .i64 y) := cell_of_block gt6 rfl
            go_wp2_with fail
            refine (tbox_no z x y _ ht).mono ?_
            rintro e w7 ⟨rfl, hb7⟩
            have gt7 := keep' hb7 (heap_alloc_lt gt6)
            have gu7 : w7.heap[w6.heap.size]? = some (.cells #[.int .i64 0, .int .i64 0, .int .i64 0] 25) := keep' hb7 (heap_alloc_is rfl)
            have hw7 := (hw6.alloc hw6.size (.cells #[.int .i64 0, .int .i64 0, .int .i64 0] 25)).trans (hb7.mono (by simp; omega))
            have hl7 := lt_of_some gt7
            clear t0 t1 t2 gt6 hw6 hb7
            have t0 : w7.cell? ⟨w.heap.size, 0, none⟩ = some (.int .i64 z) := cell_of_block gt7 rfl
            have t1 : w7.cell? ⟨w.heap.size, 1, none⟩ = some (.int .i64 x) := cell_of_block gt7 rfl
            have t2 : w7.cell? ⟨w.heap.size, 2, none⟩ = some (.int .i64 y) := cell_of_block gt7 rfl
            go_wp2_with fail
            refine (parts_no z x y _ false ht (.inl rfl)).mono ?_
            rintro e w8 ⟨rfl, hb8⟩
            have gt8 := keep' hb8 (heap_alloc_lt gt7)
            have gu8 := keep' hb8 (heap_alloc_lt gu7)
            have gb8 : w8.heap[w7.heap.size]? = some (.cells #[.int .i64 0, .int .i64 0, .int .i64 0, .int .i64 0] 33) := keep' hb8 (heap_alloc_is rfl)
            have hw8 := (hw7.alloc hw7.size (.cells #[.int .i64 0, .int .i64 0, .int .i64 0, .int .i64 0] 33)).trans (hb8.mono (by simp; omega))
            clear t0 t1 t2 gt7 gu7 hw7 hb8
            have t0 : w8.cell? ⟨w.heap.size, 0, none⟩ = some (.int .i64 z) := cell_of_block gt8 rfl
            have t1 : w8.cell? ⟨w.heap.size, 1, none⟩ = some (.int .i64 x) := cell_of_block gt8 rfl
            have t2 : w8.cell? ⟨w.heap.size, 2, none⟩ = some (.int .i64 y) := cell_of_block gt8 rfl
            go_wp2_with fail
            refine (reftile_any z x y _).mono ?_
            rintro e w9 ⟨rfl, hb9⟩
            rw [ht.out]
            have gu9 := keep' hb9 gu8
            have gb9 := keep' hb9 gb8
            have hw9 := hw8.trans (hb9.mono hw8.size)
            clear t0 t1 t2 gt8 gu8 gb8 hw8 hb9
            have u0 : w9.cell? ⟨w6.heap.size, 0, none⟩ = some (.int .i64 0) := cell_of_block gu9 rfl
            have u1 : w9.cell? ⟨w6.heap.size, 1, none⟩ = some (.int .i64 0) := cell_of_block gu9 rfl
            have u2 : w9.cell? ⟨w6.heap.size, 2, none⟩ = some (.int .i64 0) := cell_of_block gu9 rfl
            have b0 : w9.cell? ⟨w7.heap.size, 0, none⟩ = some (.int .i64 0) := cell_of_block gb9 rfl
            have b1 : w9.cell? ⟨w7.heap.size, 1, none⟩ = some (.int .i64 0) := cell_of_block gb9 rfl
            have b2 : w9.cell? ⟨w7.heap.size, 2, none⟩ = some (.int .i64 0) := cell_of_block gb9 rfl
            have b3 : w9.cell? ⟨w7.heap.size, 3, none⟩ = some (.int .i64 0) := cell_of_block gb9 rfl
            go_wp2_with fail
            refine (tawake_any _).mono ?_
            rintro e wz ⟨rfl, hbz⟩
            go_wp2_with fail
            go_ret
            exact ⟨rfl, hw9.trans (hbz.mono hw9.size)⟩
end Go.Proofs.Ytnpilmjpinmgfaa
