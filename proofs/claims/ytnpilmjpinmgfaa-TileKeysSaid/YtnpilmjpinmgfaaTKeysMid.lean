/-
  THE LAW OF KEYS, WALKED: a tile that has one above and four below. CONDITIONS: the key has at most 100 bytes.
-/
import Derived.Test.YtnpilmjpinmgfaaTKeysBase
import Derived.Test.YtnpilmjpinmgfaaKit
import Derived.Lib.Hide
namespace Go.Proofs.Ytnpilmjpinmgfaa
open Go.RowKit Go.Proofs.Ytnpilmjpinmgfaa.Tame
set_option maxHeartbeats 400000
set_option maxRecDepth 100000 in
set_option maxHeartbeats 40000000 in
theorem tilekeys_mid (z x y a b c f : Int) (s : ByteArray) (w : World) (h100 : s.size ≤ 100) (HP : Hid (Parsed s a b c f)) (hz0 : 0 ≤ z) (hz1 : z ≤ 29) (hz28 : z ≤ 28) (ht : Hid (tilB z x y = true)) (K : ByteArray) (hK : Hid (KB z x y = K)) (Hky : Hid (∀ w, Calls Try.prog 17 #[.agg #[.int .i64 z, .int .i64 x, .int .i64 y]] w fun e w' => e = .returned (.tuple #[.string K, .int .i64 0]) ∧ Below w.heap.size w w')) (Hpk : Hid (∀ w, Calls Try.prog 18 #[.string K] w fun e w' => e = .returned (.tuple #[.agg #[.int .i64 z, .int .i64 x, .int .i64 y], .int .i64 0]) ∧ Below w.heap.size w w')) (hKs : Hid (K.size ≤ 29)) (n : Nat) (hzn : 0 < z) (z' x' y' : Int) (hu : Hid (tilB z' x' y' = true)) (K' : ByteArray) (hK' : Hid (KB z' x' y' = K')) (hKn : Hid (K.size = n + 1)) (hn : n ≤ 28) (hKe : Hid (K.extract 0 n = K')) (Hup : Hid (∀ w, Calls Try.prog 21 #[.agg #[.int .i64 z, .int .i64 x, .int .i64 y]] w fun e w' => e = .returned (.tuple #[.agg #[.int .i64 z', .int .i64 x', .int .i64 y'], .bool true]) ∧ Below w.heap.size w w')) :
    Calls Try.prog 5 #[.agg #[.int .i64 z, .int .i64 x, .int .i64 y], .string s] w fun e w' => e = .returned (.bool true) ∧ Below w.heap.size w w' := by
  go_enter Try.func5, Try.ntmps5
  go_wp2_with fail
  refine (Hky.out _).mono ?_
  rintro e w1 ⟨rfl, hb1⟩
  have hw1 : Below w.heap.size w w1 := (by go_grown : Below w.heap.size w (w.alloc (.cells #[.int .i64 z, .int .i64 x, .int .i64 y] 25))).trans (hb1.mono (by simp))
  have gt1 : w1.heap[w.heap.size]? = some (.cells #[.int .i64 z, .int .i64 x, .int .i64 y] 25) := keep' hb1 (heap_alloc_is rfl)
  clear hb1
  go_wp2_with fail
  refine (parse_any s _ (by omega)).mono ?_
  rintro e w2 ⟨rfl, hb2⟩
  rw [HP.out.val]
  have hw2 := hw1.trans (hb2.mono hw1.size)
  have gt2 := keep' hb2 gt1
  have hl2 := lt_of_some gt2
  clear hb2 gt1 hw1
  go_upto_region 5 with (fail)
  go_cut [46] (fun s46 wx => s46 = .bool false ∧ Below w.heap.size w wx ∧ wx.heap[w.heap.size]? = some (.cells #[.int .i64 z, .int .i64 x, .int .i64 y] 25) ∧ wx.heap[w2.heap.size]? = some (.cells #[.int .i64 a, .int .i64 b, .int .i64 c] 25))
  case first =>
    as_aux_lemma =>
      have hw := hw2.alloc hw2.size (.cells #[.int .i64 a, .int .i64 b, .int .i64 c] 25)
      cases hr : rightB s
      · obtain ⟨rfl, rfl, rfl, rfl⟩ := HP.out.no hr
        clear hr
        go_wp2_with fail
        go_meet
        exact ⟨rfl, hw, heap_alloc_lt gt2, heap_alloc_is rfl⟩
      · obtain ⟨rfl, hx1, hx2⟩ := HP.out.yes hr
        clear hr
        have Hx1 := Lib.hid hx1
        have Hx2 := Lib.hid hx2
        clear hx1 hx2
        go_wp2_with fail
        refine (reftile_any a b c _).mono ?_
        rintro e w3 ⟨rfl, hb3⟩
        rw [Hx1.out]
        have hw3 := hw.trans (hb3.mono hw.size)
        have gt3 := keep' hb3 (heap_alloc_lt gt2)
        have gx3 := keep' hb3 (heap_alloc_is rfl)
        clear hb3
        have c0 : w3.cell? ⟨w2.heap.size, 0, none⟩ = some (.int .i64 a) := cell_of_block gx3 rfl
        have c1 : w3.cell? ⟨w2.heap.size, 1, none⟩ = some (.int .i64 b) := cell_of_block gx3 rfl
        have c2 : w3.cell? ⟨w2.heap.size, 2, none⟩ = some (.int .i64 c) := cell_of_block gx3 rfl
        go_wp2_with fail
        refine (refkey_c a b c _ Hx1.out).mono ?_
        rintro e w4 ⟨rfl, hb4⟩
        rw [Hx2.out]
        go_wp2_with fail
        go_meet
        exact ⟨rfl, hw3.trans (hb4.mono hw3.size), keep' hb4 gt3, keep' hb4 gx3⟩
  case rest =>
    obtain ⟨rfl, hb, gt, gx⟩ := hcut
    clear hw2 gt2 hl2
    go_wp2_with fail
    go_loop [9, 10] (fun s9 s10 => ∃ k : Nat, k ≤ s.size ∧ s10 = .int .i64 k ∧ s9 = .bool (rightK s k)) (fun _ s10 => s.size - (intOf s10).toNat)
    case atStart =>
      refine ⟨0, Nat.zero_le _, rfl, ?_⟩
      unfold rightK
      by_cases h29 : s.size ≤ 29
      · have : (s.size : Int) ≤ 29 := by omega
        simp [h29, this]
      · have : ¬ (s.size : Int) ≤ 29 := by omega
        simp [h29, this]
    case round =>
      obtain ⟨k, hk, rfl, rfl⟩ := hrel
      by_cases hlt : k < s.size
      · have hsn := rightK_snoc s k hlt
        have Hsn := Lib.hid hsn
        clear hsn
        have HR := Lib.hid (rfl : rightK s k = rightK s k)
        cases hrk : rightK s k
        · go_wp2
          go_round
          case rel => exact ⟨k + 1, hlt, by go_num, congrArg Value.bool (by rw [Hsn.out, hrk]; rfl)⟩
          case measure => simp [intOf]; omega
        · by_cases h48 : 48 ≤ s[k].toNat
          · go_wp2
            go_round
            case rel => exact ⟨k + 1, hlt, by go_num, congrArg Value.bool (by rw [Hsn.out, hrk]; simp [h48]; try omega)⟩
            case measure => simp [intOf]; omega
          · go_wp2
            go_round
            case rel => exact ⟨k + 1, hlt, by go_num, congrArg Value.bool (by rw [Hsn.out, hrk]; simp [h48]; try omega)⟩
            case measure => simp [intOf]; omega
      · obtain rfl : k = s.size := by omega
        have e9 : rightK s s.size = rightB s := rfl
        rw [e9]
        clear e9 hk hlt
        generalize hrr : rightB s = r
        have Hr := Lib.hid hrr
        clear hrr
        go_upto_region 12 with (fail)
        go_cut [95] (fun s95 wx => s95 = .bool false ∧ Below w.heap.size w wx ∧ wx.heap[w.heap.size]? = some (.cells #[.int .i64 z, .int .i64 x, .int .i64 y] 25))
        case first =>
          have ht' := ht.out
          cases r
          · obtain ⟨rfl, rfl, rfl, rfl⟩ := HP.out.no Hr.out
            refine draws_hid (by kernel_rfl) (by kernel_rfl) (by kernel_rfl) (fun W hW ops hops => ?_)
            subst hW
            have o4 : (ops[4]?).bind (fun x => x.dst) = some 73 := by rw [hops]; rfl
            have o11 : (ops[11]?).bind (fun x => x.dst) = some 80 := by rw [hops]; rfl
            have o14 : (ops[14]?).bind (fun x => x.dst) = some 83 := by rw [hops]; rfl
            have o20 : (ops[20]?).bind (fun x => x.dst) = some 89 := by rw [hops]; rfl
            clear hops
            have t0 : ∀ xl : Later W [], xl.w.cell? ⟨w.heap.size, 0, none⟩ = some (.int .i64 z) := fun xl => cell_of_block (Later.at0 gt xl) rfl
            have t1 : ∀ xl : Later W [], xl.w.cell? ⟨w.heap.size, 1, none⟩ = some (.int .i64 x) := fun xl => cell_of_block (Later.at0 gt xl) rfl
            have t2 : ∀ xl : Later W [], xl.w.cell? ⟨w.heap.size, 2, none⟩ = some (.int .i64 y) := fun xl => cell_of_block (Later.at0 gt xl) rfl
            have c0 : ∀ xl : Later W [], xl.w.cell? ⟨w2.heap.size, 0, none⟩ = some (.int .i64 0) := fun xl => cell_of_block (Later.at0 gx xl) rfl
            have c1 : ∀ xl : Later W [], xl.w.cell? ⟨w2.heap.size, 1, none⟩ = some (.int .i64 0) := fun xl => cell_of_block (Later.at0 gx xl) rfl
            have c2 : ∀ xl : Later W [], xl.w.cell? ⟨w2.heap.size, 2, none⟩ = some (.int .i64 0) := fun xl => cell_of_block (Later.at0 gx xl) rfl
            repeat (refine walkT_step (fun K hK => ?_); go_simp; first | (refine hK _ _ ?_; clear hK K) | (refine ⟨_, fun xl => tile_any _ _ _ _, ?_⟩; refine hK _ _ ?_; clear hK K) | (refine ⟨_, fun xl => reftile_any _ _ _ _, ?_⟩; refine hK _ _ ?_; clear hK K))
            refine walkT_nil ?_
            intro w5 hc
            have hw5 := hb.trans (hc.below.mono hb.size)
            have gt5 := hc.at0 gt
            clear t0 t1 t2 c0 c1 c2 hc
            go_wp2_with fail
            go_meet
            exact ⟨rfl, hw5, gt5⟩
          · obtain ⟨rfl, hx1, hx2⟩ := HP.out.yes Hr.out
            clear hx1 hx2
            as_aux_lemma =>
              refine draws_hid (by kernel_rfl) (by kernel_rfl) (by kernel_rfl) (fun W hW ops hops => ?_)
              subst hW
              have o4 : (ops[4]?).bind (fun x => x.dst) = some 73 := by rw [hops]; rfl
              have o11 : (ops[11]?).bind (fun x => x.dst) = some 80 := by rw [hops]; rfl
              have o14 : (ops[14]?).bind (fun x => x.dst) = some 83 := by rw [hops]; rfl
              have o20 : (ops[20]?).bind (fun x => x.dst) = some 89 := by rw [hops]; rfl
              clear hops
              have t0 : ∀ xl : Later W [], xl.w.cell? ⟨w.heap.size, 0, none⟩ = some (.int .i64 z) := fun xl => cell_of_block (Later.at0 gt xl) rfl
              have t1 : ∀ xl : Later W [], xl.w.cell? ⟨w.heap.size, 1, none⟩ = some (.int .i64 x) := fun xl => cell_of_block (Later.at0 gt xl) rfl
              have t2 : ∀ xl : Later W [], xl.w.cell? ⟨w.heap.size, 2, none⟩ = some (.int .i64 y) := fun xl => cell_of_block (Later.at0 gt xl) rfl
              repeat (refine walkT_step (fun K hK => ?_); go_simp; first | (refine hK _ _ ?_; clear hK K) | (refine ⟨_, fun xl => tile_any _ _ _ _, ?_⟩; refine hK _ _ ?_; clear hK K) | (refine ⟨_, fun xl => reftile_any _ _ _ _, ?_⟩; refine hK _ _ ?_; clear hK K))
              refine walkT_nil ?_
              intro w5 hc
              have hw5 := hb.trans (hc.below.mono hb.size)
              have gt5 := hc.at0 gt
              clear t0 t1 t2 hc
              go_wp2_with fail
              go_meet
              exact ⟨rfl, hw5, gt5⟩
        case rest =>
          obtain ⟨rfl, hb', gt'⟩ := hcut
          clear hb gt gx HP h100 Hr
          as_aux_lemma =>
            have hl' := lt_of_some gt'
            have t0 : wc.cell? ⟨w.heap.size, 0, none⟩ = some (.int .i64 z) := cell_of_block gt' rfl
            have t1 : wc.cell? ⟨w.heap.size, 1, none⟩ = some (.int .i64 x) := cell_of_block gt' rfl
            have t2 : wc.cell? ⟨w.heap.size, 2, none⟩ = some (.int .i64 y) := cell_of_block gt' rfl
            go_wp2_with fail
            refine (Hup.out _).mono ?_
            rintro e w6 ⟨rfl, hb6⟩
            have gt6 := keep' hb6 gt'
            have hw6 := hb'.trans (hb6.mono hb'.size)
            have hl6 := lt_of_some gt6
            clear t0 t1 t2 gt' hb' hb6 hl'
            have t0 : w6.cell? ⟨w.heap.size, 0, none⟩ = some (.int .i64 z) := cell_of_block gt6 rfl
            have t1 : w6.cell? ⟨w.heap.size, 1, none⟩ = some (.int .i64 x) := cell_of_block gt6 rfl
            have t2 : w6.cell? ⟨w.heap.size, 2, none⟩ = some (.int .i64 y) := cell_of_block gt6 rfl
            go_wp2_with fail
            refine (box_c z x y _ ht.out).mono ?_
            rintro e w7 ⟨rfl, hb7⟩
            have gt7 := keep' hb7 (heap_alloc_lt gt6)
            have gu7 : w7.heap[w6.heap.size]? = some (.cells #[.int .i64 z', .int .i64 x', .int .i64 y'] 25) := keep' hb7 (heap_alloc_is rfl)
            have hw7 := (hw6.alloc hw6.size (.cells #[.int .i64 z', .int .i64 x', .int .i64 y'] 25)).trans (hb7.mono (by simp; omega))
            have hl7 := lt_of_some gt7
            clear t0 t1 t2 gt6 hw6 hb7
            have t0 : w7.cell? ⟨w.heap.size, 0, none⟩ = some (.int .i64 z) := cell_of_block gt7 rfl
            have t1 : w7.cell? ⟨w.heap.size, 1, none⟩ = some (.int .i64 x) := cell_of_block gt7 rfl
            have t2 : w7.cell? ⟨w.heap.size, 2, none⟩ = some (.int .i64 y) := cell_of_block gt7 rfl
            go_wp2_with fail
            refine (parts_c z x y _ ht.out hz28).mono ?_
            rintro e w8 ⟨g, cap, rfl, hg, hown, hb8⟩
            obtain ⟨cur, hgc, hcap, hcur⟩ := own_block hown
            have HC := Lib.hid hcur
            clear hcur hown
            have gt8 := keep' hb8 (heap_alloc_lt gt7)
            have gu8 := keep' hb8 (heap_alloc_lt gu7)
            have gb8 : w8.heap[w7.heap.size]? = some (.cells #[.int .i64 (loI z x), .int .i64 (loI z y), .int .i64 (hiI z x), .int .i64 (hiI z y)] 33) := keep' hb8 (heap_alloc_is rfl)
            have hw8 := (hw7.alloc hw7.size (.cells #[.int .i64 (loI z x), .int .i64 (loI z y), .int .i64 (hiI z x), .int .i64 (hiI z y)] 33)).trans (hb8.mono (by simp; omega))
            clear t0 t1 t2 gt7 gu7 hw7 hb8
            have t0 : w8.cell? ⟨w.heap.size, 0, none⟩ = some (.int .i64 z) := cell_of_block gt8 rfl
            have t1 : w8.cell? ⟨w.heap.size, 1, none⟩ = some (.int .i64 x) := cell_of_block gt8 rfl
            have t2 : w8.cell? ⟨w.heap.size, 2, none⟩ = some (.int .i64 y) := cell_of_block gt8 rfl
            go_wp2_with fail
            refine (reftile_any z x y _).mono ?_
            rintro e w9 ⟨rfl, hb9⟩
            rw [ht.out]
            have gt9 := keep' hb9 gt8
            have gu9 := keep' hb9 gu8
            have gb9 := keep' hb9 gb8
            have gc9 := keep' hb9 hgc
            have hw9 := hw8.trans (hb9.mono hw8.size)
            clear t0 t1 t2 gt8 gu8 gb8 hw8 hb9 hgc
            go_wp2_with fail
            refine (Hpk.out _).mono ?_
            rintro e w10 ⟨rfl, hb10⟩
            have gt10 := keep' hb10 gt9
            have gu10 := keep' hb10 gu9
            have gb10 := keep' hb10 gb9
            have gc10 := keep' hb10 gc9
            have hw10 := hw9.trans (hb10.mono hw9.size)
            clear gt9 gu9 gb9 hw9 hb10 gc9
            as_aux_lemma =>
              go_upto_region 20 with (fail)
              refine draws_hid (by kernel_rfl) (by kernel_rfl) (by kernel_rfl) (fun W hW ops hops => ?_)
              have gt : W.heap[w.heap.size]? = some (.cells #[.int .i64 z, .int .i64 x, .int .i64 y] 25) := by rw [hW]; exact heap_alloc_lt gt10
              have gu : W.heap[w6.heap.size]? = some (.cells #[.int .i64 z', .int .i64 x', .int .i64 y'] 25) := by rw [hW]; exact heap_alloc_lt gu10
              have gb : W.heap[w7.heap.size]? = some (.cells #[.int .i64 (loI z x), .int .i64 (loI z y), .int .i64 (hiI z x), .int .i64 (hiI z y)] 33) := by rw [hW]; exact heap_alloc_lt gb10
              have gy : W.heap[w10.heap.size]? = some (.cells #[.int .i64 z, .int .i64 x, .int .i64 y] 25) := by rw [hW]; exact heap_alloc_is rfl
              have hbW : Below w.heap.size w W := by rw [hW]; exact hw10.alloc hw10.size _
              have gc : W.heap[g]? = some (.cells cur 25 (0, 0)) := by rw [hW]; exact heap_alloc_lt gc10
              clear hW gt10 gu10 gb10 hw10 gc10
              have o2 : (ops[2]?).bind (fun x => x.dst) = some 150 := by rw [hops]; rfl
              have o8 : (ops[8]?).bind (fun x => x.dst) = some 156 := by rw [hops]; rfl
              have o12 : (ops[12]?).bind (fun x => x.dst) = some 160 := by rw [hops]; rfl
              have o17 : (ops[17]?).bind (fun x => x.dst) = some 165 := by rw [hops]; rfl
              have o21 : (ops[21]?).bind (fun x => x.dst) = some 169 := by rw [hops]; rfl
              have o27 : (ops[27]?).bind (fun x => x.dst) = some 175 := by rw [hops]; rfl
              have o34 : (ops[34]?).bind (fun x => x.dst) = some 182 := by rw [hops]; rfl
              have o36 : (ops[36]?).bind (fun x => x.dst) = some 184 := by rw [hops]; rfl
              have o40 : (ops[40]?).bind (fun x => x.dst) = some 188 := by rw [hops]; rfl
              clear hops
              have t0 : ∀ xl : Later W [], xl.w.cell? ⟨w.heap.size, 0, none⟩ = some (.int .i64 z) := fun xl => cell_of_block (Later.at0 gt xl) rfl
              have t1 : ∀ xl : Later W [], xl.w.cell? ⟨w.heap.size, 1, none⟩ = some (.int .i64 x) := fun xl => cell_of_block (Later.at0 gt xl) rfl
              have t2 : ∀ xl : Later W [], xl.w.cell? ⟨w.heap.size, 2, none⟩ = some (.int .i64 y) := fun xl => cell_of_block (Later.at0 gt xl) rfl
              have u0 : ∀ xl : Later W [], xl.w.cell? ⟨w6.heap.size, 0, none⟩ = some (.int .i64 z') := fun xl => cell_of_block (Later.at0 gu xl) rfl
              have u1 : ∀ xl : Later W [], xl.w.cell? ⟨w6.heap.size, 1, none⟩ = some (.int .i64 x') := fun xl => cell_of_block (Later.at0 gu xl) rfl
              have u2 : ∀ xl : Later W [], xl.w.cell? ⟨w6.heap.size, 2, none⟩ = some (.int .i64 y') := fun xl => cell_of_block (Later.at0 gu xl) rfl
              have b0 : ∀ xl : Later W [], xl.w.cell? ⟨w7.heap.size, 0, none⟩ = some (.int .i64 (loI z x)) := fun xl => cell_of_block (Later.at0 gb xl) rfl
              have b1 : ∀ xl : Later W [], xl.w.cell? ⟨w7.heap.size, 1, none⟩ = some (.int .i64 (loI z y)) := fun xl => cell_of_block (Later.at0 gb xl) rfl
              have b2 : ∀ xl : Later W [], xl.w.cell? ⟨w7.heap.size, 2, none⟩ = some (.int .i64 (hiI z x)) := fun xl => cell_of_block (Later.at0 gb xl) rfl
              have b3 : ∀ xl : Later W [], xl.w.cell? ⟨w7.heap.size, 3, none⟩ = some (.int .i64 (hiI z y)) := fun xl => cell_of_block (Later.at0 gb xl) rfl
              have y0 : ∀ xl : Later W [], xl.w.cell? ⟨w10.heap.size, 0, none⟩ = some (.int .i64 z) := fun xl => cell_of_block (Later.at0 gy xl) rfl
              have y1 : ∀ xl : Later W [], xl.w.cell? ⟨w10.heap.size, 1, none⟩ = some (.int .i64 x) := fun xl => cell_of_block (Later.at0 gy xl) rfl
              have y2 : ∀ xl : Later W [], xl.w.cell? ⟨w10.heap.size, 2, none⟩ = some (.int .i64 y) := fun xl => cell_of_block (Later.at0 gy xl) rfl
              have ht' := ht.out
              have hk1 := hK.out
              have hu' := hu.out
              have hk2 := hK'.out
              have hk3 := hKe.out
              have hk4 := hKn.out
              have hwn : IntKind.i64.wrap (n : Int) = (n : Int) := IntWalk.i64_in _ (by omega)
              have hn0 : (0 : Int) ≤ (n : Int) := Int.natCast_nonneg _
              have hn1 : (n : Int) ≤ (n : Int) + 1 := by omega
              repeat (refine walkT_step (fun K hK => ?_); go_simp; first | (refine hK _ _ ?_; clear hK K) | (refine ⟨_, fun xl => refkey_c _ _ _ _ (by assumption), ?_⟩; refine hK _ _ ?_; clear hK K) | (refine ⟨_, fun xl => reftile_any _ _ _ _, ?_⟩; refine hK _ _ ?_; clear hK K) | (refine ⟨_, fun xl => refbox_c _ _ _ _ (by assumption), ?_⟩; refine hK _ _ ?_; clear hK K))
              refine walkT_nil ?_
              intro w5 hc
              have hw5 := hbW.trans (hc.below.mono hbW.size)
              have gt5 := hc.at0 gt
              have gb5 := hc.at0 gb
              have gc5 := hc.at0 gc
              clear t0 t1 t2 u0 u1 u2 b0 b1 b2 b3 y0 y1 y2 hc ht' hk1 gt gu gb gy hbW hu' hk2 hk3 hk4 hwn hn0 hn1 gc o2 o8 o12 o17 o21 o27 o34 o36 o40
              have t0 : w5.cell? ⟨w.heap.size, 0, none⟩ = some (.int .i64 z) := cell_of_block gt5 rfl
              have t1 : w5.cell? ⟨w.heap.size, 1, none⟩ = some (.int .i64 x) := cell_of_block gt5 rfl
              have t2 : w5.cell? ⟨w.heap.size, 2, none⟩ = some (.int .i64 y) := cell_of_block gt5 rfl
              have hz29 : (z == 29) = false := beq_eq_false_iff_ne.2 (by omega)
              go_wp2_with fail
              clear t0 t1 t2 gt5
              as_aux_lemma =>
                go_loopw [18] (fun s18 wr => ∃ d : Nat, d ≤ 4 ∧ s18 = .int .i64 d ∧ Below w.heap.size w wr ∧ wr.heap[w7.heap.size]? = some (.cells #[.int .i64 (loI z x), .int .i64 (loI z y), .int .i64 (hiI z x), .int .i64 (hiI z y)] 33) ∧ wr.heap[g]? = some (.cells cur 25 (0, 0))) (fun s18 _ => 4 - (intOf s18).toNat)
                case atStart => exact ⟨0, by omega, rfl, hw5, gb5, gc5⟩
                case round =>
                  obtain ⟨d, hd, rfl, hbr, gbr, gcr⟩ := hrel
                  clear hw5 gb5 gc5
                  by_cases hd4 : d < 4
                  ·
                    have hd' : d = 0 ∨ d = 1 ∨ d = 2 ∨ d = 3 := by omega
                    have hmd := may_down ht.out hz28 d hd4
                    have hbx := box_down ht.out hz28 d hd4
                    have hkd := kb_down x y hz0 d hd4
                    rw [hK.out] at hkd
                    rcases hd' with rfl | rfl | rfl | rfl
                    ·
                      as_aux_lemma =>
                        have v0 : cur[0]? = some (.int .i64 (z + 1)) := HC.out 0 _ rfl
                        have v1 : cur[1]? = some (.int .i64 (2 * x + ((0 : Nat) : Int) % 2)) := HC.out 1 _ rfl
                        have v2 : cur[2]? = some (.int .i64 (2 * y + ((0 : Nat) : Int) / 2)) := HC.out 2 _ rfl
                        generalize 2 * x + ((0 : Nat) : Int) % 2 = xd at *
                        generalize 2 * y + ((0 : Nat) : Int) / 2 = yd at *
                        generalize hzz : z + 1 = zz at *
                        have HZ := Lib.hid hzz
                        clear hzz
                        obtain ⟨hb1, hb2, hb3, hb4⟩ := hbx
                        have hwd : IntKind.i64.wrap 1 = 1 := IntWalk.i64_in _ (by omega)
                        have hsz1 : ¬ (9223372036854775807 < K.size + 1) := by have := hKs.out; omega
                        go_upto_region 27 with (fail)
                        refine draws_hid (by kernel_rfl) (by kernel_rfl) (by kernel_rfl) (fun W hW ops hops => ?_)
                        subst hW
                        have o3 : (ops[3]?).bind (fun x => x.dst) = some 216 := by rw [hops]; rfl
                        have o11 : (ops[11]?).bind (fun x => x.dst) = some 224 := by rw [hops]; rfl
                        clear hops
                        have c0 : ∀ xl : Later W [], xl.w.cell? ⟨g, 0, none⟩ = some (.int .i64 zz) := fun xl => cell_of_block (Later.at0 gcr xl) v0
                        have c1 : ∀ xl : Later W [], xl.w.cell? ⟨g, 1, none⟩ = some (.int .i64 xd) := fun xl => cell_of_block (Later.at0 gcr xl) v1
                        have c2 : ∀ xl : Later W [], xl.w.cell? ⟨g, 2, none⟩ = some (.int .i64 yd) := fun xl => cell_of_block (Later.at0 gcr xl) v2
                        repeat (refine walkT_step (fun K hK => ?_); go_simp; first | (refine hK _ _ ?_; clear hK K) | (refine ⟨_, fun xl => refkey_c _ _ _ _ (by assumption), ?_⟩; refine hK _ _ ?_; clear hK K) | (refine ⟨_, fun xl => reftile_any _ _ _ _, ?_⟩; refine hK _ _ ?_; clear hK K))
                        refine walkT_nil ?_
                        intro w11 hc
                        have hw11 := hbr.trans (hc.below.mono hbr.size)
                        have gb11 := hc.at0 gbr
                        have gc11 := hc.at0 gcr
                        clear c0 c1 c2 hc gbr gcr hbr hkd hwd hsz1 o3 o11
                        have c0 : w11.cell? ⟨g, 0, none⟩ = some (.int .i64 zz) := cell_of_block gc11 v0
                        have c1 : w11.cell? ⟨g, 1, none⟩ = some (.int .i64 xd) := cell_of_block gc11 v1
                        have c2 : w11.cell? ⟨g, 2, none⟩ = some (.int .i64 yd) := cell_of_block gc11 v2
                        go_wp2_with fail
                        refine (refbox_c zz xd yd _ hmd).mono ?_
                        rintro e w12 ⟨rfl, hb12⟩
                        have hw12 := hw11.trans (hb12.mono hw11.size)
                        have gb12 := keep' hb12 gb11
                        have gc12 := keep' hb12 gc11
                        clear c0 c1 c2 hb12 hw11 gb11 gc11
                        have hl12 := lt_of_some gb12
                        have b0 : w12.cell? ⟨w7.heap.size, 0, none⟩ = some (.int .i64 (loI z x)) := cell_of_block gb12 rfl
                        have b1 : w12.cell? ⟨w7.heap.size, 1, none⟩ = some (.int .i64 (loI z y)) := cell_of_block gb12 rfl
                        have b2 : w12.cell? ⟨w7.heap.size, 2, none⟩ = some (.int .i64 (hiI z x)) := cell_of_block gb12 rfl
                        have b3 : w12.cell? ⟨w7.heap.size, 3, none⟩ = some (.int .i64 (hiI z y)) := cell_of_block gb12 rfl
                        go_wp2_with fail
                        go_roundw
                        case rel => exact ⟨1, by omega, rfl, hw12.alloc hw12.size _, heap_alloc_lt gb12, heap_alloc_lt gc12⟩
                        case measure => simp [intOf]
                    ·
                      as_aux_lemma =>
                        have v0 : cur[3]? = some (.int .i64 (z + 1)) := HC.out 3 _ rfl
                        have v1 : cur[4]? = some (.int .i64 (2 * x + ((1 : Nat) : Int) % 2)) := HC.out 4 _ rfl
                        have v2 : cur[5]? = some (.int .i64 (2 * y + ((1 : Nat) : Int) / 2)) := HC.out 5 _ rfl
                        generalize 2 * x + ((1 : Nat) : Int) % 2 = xd at *
                        generalize 2 * y + ((1 : Nat) : Int) / 2 = yd at *
                        generalize hzz : z + 1 = zz at *
                        have HZ := Lib.hid hzz
                        clear hzz
                        obtain ⟨hb1, hb2, hb3, hb4⟩ := hbx
                        have hwd : IntKind.i64.wrap 2 = 2 := IntWalk.i64_in _ (by omega)
                        have hsz1 : ¬ (9223372036854775807 < K.size + 1) := by have := hKs.out; omega
                        go_upto_region 27 with (fail)
                        refine draws_hid (by kernel_rfl) (by kernel_rfl) (by kernel_rfl) (fun W hW ops hops => ?_)
                        subst hW
                        have o3 : (ops[3]?).bind (fun x => x.dst) = some 216 := by rw [hops]; rfl
                        have o11 : (ops[11]?).bind (fun x => x.dst) = some 224 := by rw [hops]; rfl
                        clear hops
                        have c0 : ∀ xl : Later W [], xl.w.cell? ⟨g, 3, none⟩ = some (.int .i64 zz) := fun xl => cell_of_block (Later.at0 gcr xl) v0
                        have c1 : ∀ xl : Later W [], xl.w.cell? ⟨g, 4, none⟩ = some (.int .i64 xd) := fun xl => cell_of_block (Later.at0 gcr xl) v1
                        have c2 : ∀ xl : Later W [], xl.w.cell? ⟨g, 5, none⟩ = some (.int .i64 yd) := fun xl => cell_of_block (Later.at0 gcr xl) v2
                        repeat (refine walkT_step (fun K hK => ?_); go_simp; first | (refine hK _ _ ?_; clear hK K) | (refine ⟨_, fun xl => refkey_c _ _ _ _ (by assumption), ?_⟩; refine hK _ _ ?_; clear hK K) | (refine ⟨_, fun xl => reftile_any _ _ _ _, ?_⟩; refine hK _ _ ?_; clear hK K))
                        refine walkT_nil ?_
                        intro w11 hc
                        have hw11 := hbr.trans (hc.below.mono hbr.size)
                        have gb11 := hc.at0 gbr
                        have gc11 := hc.at0 gcr
                        clear c0 c1 c2 hc gbr gcr hbr hkd hwd hsz1 o3 o11
                        have c0 : w11.cell? ⟨g, 3, none⟩ = some (.int .i64 zz) := cell_of_block gc11 v0
                        have c1 : w11.cell? ⟨g, 4, none⟩ = some (.int .i64 xd) := cell_of_block gc11 v1
                        have c2 : w11.cell? ⟨g, 5, none⟩ = some (.int .i64 yd) := cell_of_block gc11 v2
                        go_wp2_with fail
                        refine (refbox_c zz xd yd _ hmd).mono ?_
                        rintro e w12 ⟨rfl, hb12⟩
                        have hw12 := hw11.trans (hb12.mono hw11.size)
                        have gb12 := keep' hb12 gb11
                        have gc12 := keep' hb12 gc11
                        clear c0 c1 c2 hb12 hw11 gb11 gc11
                        have hl12 := lt_of_some gb12
                        have b0 : w12.cell? ⟨w7.heap.size, 0, none⟩ = some (.int .i64 (loI z x)) := cell_of_block gb12 rfl
                        have b1 : w12.cell? ⟨w7.heap.size, 1, none⟩ = some (.int .i64 (loI z y)) := cell_of_block gb12 rfl
                        have b2 : w12.cell? ⟨w7.heap.size, 2, none⟩ = some (.int .i64 (hiI z x)) := cell_of_block gb12 rfl
                        have b3 : w12.cell? ⟨w7.heap.size, 3, none⟩ = some (.int .i64 (hiI z y)) := cell_of_block gb12 rfl
                        go_wp2_with fail
                        go_roundw
                        case rel => exact ⟨2, by omega, rfl, hw12.alloc hw12.size _, heap_alloc_lt gb12, heap_alloc_lt gc12⟩
                        case measure => simp [intOf]
                    ·
                      as_aux_lemma =>
                        have v0 : cur[6]? = some (.int .i64 (z + 1)) := HC.out 6 _ rfl
                        have v1 : cur[7]? = some (.int .i64 (2 * x + ((2 : Nat) : Int) % 2)) := HC.out 7 _ rfl
                        have v2 : cur[8]? = some (.int .i64 (2 * y + ((2 : Nat) : Int) / 2)) := HC.out 8 _ rfl
                        generalize 2 * x + ((2 : Nat) : Int) % 2 = xd at *
                        generalize 2 * y + ((2 : Nat) : Int) / 2 = yd at *
                        generalize hzz : z + 1 = zz at *
                        have HZ := Lib.hid hzz
                        clear hzz
                        obtain ⟨hb1, hb2, hb3, hb4⟩ := hbx
                        have hwd : IntKind.i64.wrap 3 = 3 := IntWalk.i64_in _ (by omega)
                        have hsz1 : ¬ (9223372036854775807 < K.size + 1) := by have := hKs.out; omega
                        go_upto_region 27 with (fail)
                        refine draws_hid (by kernel_rfl) (by kernel_rfl) (by kernel_rfl) (fun W hW ops hops => ?_)
                        subst hW
                        have o3 : (ops[3]?).bind (fun x => x.dst) = some 216 := by rw [hops]; rfl
                        have o11 : (ops[11]?).bind (fun x => x.dst) = some 224 := by rw [hops]; rfl
                        clear hops
                        have c0 : ∀ xl : Later W [], xl.w.cell? ⟨g, 6, none⟩ = some (.int .i64 zz) := fun xl => cell_of_block (Later.at0 gcr xl) v0
                        have c1 : ∀ xl : Later W [], xl.w.cell? ⟨g, 7, none⟩ = some (.int .i64 xd) := fun xl => cell_of_block (Later.at0 gcr xl) v1
                        have c2 : ∀ xl : Later W [], xl.w.cell? ⟨g, 8, none⟩ = some (.int .i64 yd) := fun xl => cell_of_block (Later.at0 gcr xl) v2
                        repeat (refine walkT_step (fun K hK => ?_); go_simp; first | (refine hK _ _ ?_; clear hK K) | (refine ⟨_, fun xl => refkey_c _ _ _ _ (by assumption), ?_⟩; refine hK _ _ ?_; clear hK K) | (refine ⟨_, fun xl => reftile_any _ _ _ _, ?_⟩; refine hK _ _ ?_; clear hK K))
                        refine walkT_nil ?_
                        intro w11 hc
                        have hw11 := hbr.trans (hc.below.mono hbr.size)
                        have gb11 := hc.at0 gbr
                        have gc11 := hc.at0 gcr
                        clear c0 c1 c2 hc gbr gcr hbr hkd hwd hsz1 o3 o11
                        have c0 : w11.cell? ⟨g, 6, none⟩ = some (.int .i64 zz) := cell_of_block gc11 v0
                        have c1 : w11.cell? ⟨g, 7, none⟩ = some (.int .i64 xd) := cell_of_block gc11 v1
                        have c2 : w11.cell? ⟨g, 8, none⟩ = some (.int .i64 yd) := cell_of_block gc11 v2
                        go_wp2_with fail
                        refine (refbox_c zz xd yd _ hmd).mono ?_
                        rintro e w12 ⟨rfl, hb12⟩
                        have hw12 := hw11.trans (hb12.mono hw11.size)
                        have gb12 := keep' hb12 gb11
                        have gc12 := keep' hb12 gc11
                        clear c0 c1 c2 hb12 hw11 gb11 gc11
                        have hl12 := lt_of_some gb12
                        have b0 : w12.cell? ⟨w7.heap.size, 0, none⟩ = some (.int .i64 (loI z x)) := cell_of_block gb12 rfl
                        have b1 : w12.cell? ⟨w7.heap.size, 1, none⟩ = some (.int .i64 (loI z y)) := cell_of_block gb12 rfl
                        have b2 : w12.cell? ⟨w7.heap.size, 2, none⟩ = some (.int .i64 (hiI z x)) := cell_of_block gb12 rfl
                        have b3 : w12.cell? ⟨w7.heap.size, 3, none⟩ = some (.int .i64 (hiI z y)) := cell_of_block gb12 rfl
                        go_wp2_with fail
                        go_roundw
                        case rel => exact ⟨3, by omega, rfl, hw12.alloc hw12.size _, heap_alloc_lt gb12, heap_alloc_lt gc12⟩
                        case measure => simp [intOf]
                    ·
                      as_aux_lemma =>
                        have v0 : cur[9]? = some (.int .i64 (z + 1)) := HC.out 9 _ rfl
                        have v1 : cur[10]? = some (.int .i64 (2 * x + ((3 : Nat) : Int) % 2)) := HC.out 10 _ rfl
                        have v2 : cur[11]? = some (.int .i64 (2 * y + ((3 : Nat) : Int) / 2)) := HC.out 11 _ rfl
                        generalize 2 * x + ((3 : Nat) : Int) % 2 = xd at *
                        generalize 2 * y + ((3 : Nat) : Int) / 2 = yd at *
                        generalize hzz : z + 1 = zz at *
                        have HZ := Lib.hid hzz
                        clear hzz
                        obtain ⟨hb1, hb2, hb3, hb4⟩ := hbx
                        have hwd : IntKind.i64.wrap 4 = 4 := IntWalk.i64_in _ (by omega)
                        have hsz1 : ¬ (9223372036854775807 < K.size + 1) := by have := hKs.out; omega
                        go_upto_region 27 with (fail)
                        refine draws_hid (by kernel_rfl) (by kernel_rfl) (by kernel_rfl) (fun W hW ops hops => ?_)
                        subst hW
                        have o3 : (ops[3]?).bind (fun x => x.dst) = some 216 := by rw [hops]; rfl
                        have o11 : (ops[11]?).bind (fun x => x.dst) = some 224 := by rw [hops]; rfl
                        clear hops
                        have c0 : ∀ xl : Later W [], xl.w.cell? ⟨g, 9, none⟩ = some (.int .i64 zz) := fun xl => cell_of_block (Later.at0 gcr xl) v0
                        have c1 : ∀ xl : Later W [], xl.w.cell? ⟨g, 10, none⟩ = some (.int .i64 xd) := fun xl => cell_of_block (Later.at0 gcr xl) v1
                        have c2 : ∀ xl : Later W [], xl.w.cell? ⟨g, 11, none⟩ = some (.int .i64 yd) := fun xl => cell_of_block (Later.at0 gcr xl) v2
                        repeat (refine walkT_step (fun K hK => ?_); go_simp; first | (refine hK _ _ ?_; clear hK K) | (refine ⟨_, fun xl => refkey_c _ _ _ _ (by assumption), ?_⟩; refine hK _ _ ?_; clear hK K) | (refine ⟨_, fun xl => reftile_any _ _ _ _, ?_⟩; refine hK _ _ ?_; clear hK K))
                        refine walkT_nil ?_
                        intro w11 hc
                        have hw11 := hbr.trans (hc.below.mono hbr.size)
                        have gb11 := hc.at0 gbr
                        have gc11 := hc.at0 gcr
                        clear c0 c1 c2 hc gbr gcr hbr hkd hwd hsz1 o3 o11
                        have c0 : w11.cell? ⟨g, 9, none⟩ = some (.int .i64 zz) := cell_of_block gc11 v0
                        have c1 : w11.cell? ⟨g, 10, none⟩ = some (.int .i64 xd) := cell_of_block gc11 v1
                        have c2 : w11.cell? ⟨g, 11, none⟩ = some (.int .i64 yd) := cell_of_block gc11 v2
                        go_wp2_with fail
                        refine (refbox_c zz xd yd _ hmd).mono ?_
                        rintro e w12 ⟨rfl, hb12⟩
                        have hw12 := hw11.trans (hb12.mono hw11.size)
                        have gb12 := keep' hb12 gb11
                        have gc12 := keep' hb12 gc11
                        clear c0 c1 c2 hb12 hw11 gb11 gc11
                        have hl12 := lt_of_some gb12
                        have b0 : w12.cell? ⟨w7.heap.size, 0, none⟩ = some (.int .i64 (loI z x)) := cell_of_block gb12 rfl
                        have b1 : w12.cell? ⟨w7.heap.size, 1, none⟩ = some (.int .i64 (loI z y)) := cell_of_block gb12 rfl
                        have b2 : w12.cell? ⟨w7.heap.size, 2, none⟩ = some (.int .i64 (hiI z x)) := cell_of_block gb12 rfl
                        have b3 : w12.cell? ⟨w7.heap.size, 3, none⟩ = some (.int .i64 (hiI z y)) := cell_of_block gb12 rfl
                        go_wp2_with fail
                        go_roundw
                        case rel => exact ⟨4, by omega, rfl, hw12.alloc hw12.size _, heap_alloc_lt gb12, heap_alloc_lt gc12⟩
                        case measure => simp [intOf]
                  · obtain rfl : d = 4 := by omega
                    go_wp2_with fail
                    refine (tawake_any _).mono ?_
                    rintro e wz ⟨rfl, hbz⟩
                    go_wp2_with fail
                    go_ret
                    exact ⟨rfl, hbr.trans (hbz.mono hbr.size)⟩
end Go.Proofs.Ytnpilmjpinmgfaa
