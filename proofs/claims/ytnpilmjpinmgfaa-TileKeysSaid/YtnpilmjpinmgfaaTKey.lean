/-
  THE WALK OF tile.Key: a tile's key, digit by digit. CONDITIONS: the tile may be (else: no key).
-/
import Derived.Test.YtnpilmjpinmgfaaTile3
import Derived.Lib.Hide
import Derived.OwnWalk
import Derived.Deep.RegionHeld3
import Derived.Deep.AppendLies
import Derived.Lib.BufferRead
namespace Go.Proofs.Ytnpilmjpinmgfaa
open Go.RowKit Go.Proofs.Ytnpilmjpinmgfaa.Tame
set_option maxHeartbeats 400000

/-- A digit of a key. -/
def digI (x y : Int) : Int := 48 + (x % 2 + 2 * (y % 2))
/-- The digits of a key, the outermost one first. -/
def keyI : Nat → Int → Int → List Int
  | 0, _, _ => []
  | n + 1, x, y => keyI n (x / 2) (y / 2) ++ [digI x y]
theorem keyI_len (n : Nat) : ∀ x y, (keyI n x y).length = n := by
  induction n with
  | zero => intro x y; rfl
  | succ n ih => intro x y; simp [keyI, ih]
theorem info5 : (Try.prog.info? 5).map (fun i => (i.zero, i.size, i.bytes)) = some (some (.int .u8 0), 1, 1) := by kernel_rfl
theorem and_one (q : Int) : bits .and .i64 q 1 = q % 2 := by
  show IntKind.i64.wrap ((BitVec.ofInt 64 q &&& BitVec.ofInt 64 1).toNat : Int) = _
  have e3 : (BitVec.ofInt 64 1).toNat = 2 ^ 1 - 1 := by decide
  rw [BitVec.toNat_and, e3, Nat.and_two_pow_sub_one_eq_mod, BitVec.toNat_ofInt]
  have : ((q % ((2 ^ 64 : Nat) : Int)).toNat : Int) = q % 18446744073709551616 := by
    have : 0 ≤ q % 18446744073709551616 := Int.emod_nonneg _ (by decide)
    simp only [Nat.reducePow, Int.cast_ofNat_Int]
    omega
  rw [IntKind.wrap_i64]
  generalize hm : (q % ((2 ^ 64 : Nat) : Int)).toNat = m at *
  omega

theorem keyI_dig (n : Nat) : ∀ x y d, d ∈ keyI n x y → 48 ≤ d ∧ d ≤ 51 := by
  induction n with
  | zero => intro x y d h; simp [keyI] at h
  | succ n ih =>
    intro x y d h
    unfold keyI at h
    rw [List.mem_append] at h
    rcases h with h | h
    · exact ih _ _ _ h
    · rw [List.mem_singleton] at h
      rw [h]
      unfold digI
      omega
/-- A key's bytes. -/
def keyL (n : Nat) (x y : Int) : List UInt8 := (keyI n x y).map (fun d => UInt8.ofNat d.toNat)
theorem keyL_len (n : Nat) (x y : Int) : (keyL n x y).length = n := by unfold keyL; rw [List.length_map, keyI_len]
theorem keyL_vals (n : Nat) (x y : Int) : (keyL n x y).map (fun b => Value.int .u8 (b.toNat : Int)) = (keyI n x y).map (Value.int .u8) := by
  unfold keyL
  rw [List.map_map]
  apply List.map_congr_left
  intro d hd
  have := keyI_dig n x y d hd
  show Value.int .u8 ((UInt8.ofNat d.toNat).toNat : Int) = _
  have e : ((UInt8.ofNat d.toNat).toNat : Int) = d := by
    rw [UInt8.toNat_ofNat']
    omega
  rw [e]
theorem str_of_own {w : World} {base n : Nat} {v : Value} {l : List UInt8} (h : w.ownsRow base 5 1 v n (l.map fun b => Value.int .u8 (b.toNat : Int))) (hl : l.length = n) :
    (convert 66 9 v).run Try.prog w = .ok (.string ⟨l.toArray⟩) w := by
  rcases h.2 with ⟨rfl, h0⟩ | ⟨g, cap, cur, rfl, hb, hg, hc⟩
  · subst h0
    have : l = [] := List.eq_nil_of_length_eq_zero hl
    subst this
    exact Lib.run_convert_nil_bytes w 66 9 5 0 Try.underlying66 Try.underlying5 Try.underlying9
  · subst hl
    refine run_convert_bytes_back w 66 9 5 ⟨g, 0, none⟩ cap l Try.underlying66 Try.underlying5 Try.underlying9 ?_
    intro j hj
    exact h.cells rfl j _ (by simp [hj])
theorem tkey_at (n : Nat) (x y : Int) (w : World) (hn : n ≤ 29) (ht : Hid (tilB n x y = true)) :
    Calls Try.prog 17 #[.agg #[.int .i64 n, .int .i64 x, .int .i64 y]] w fun e w' => e = .returned (.tuple #[.string ⟨(keyL n x y).toArray⟩, .int .i64 0]) ∧ Below w.heap.size w w' := by
  obtain ⟨i0, hi0, hz0, hz1, hz2⟩ := info_parts info5
  go_enter Try.func17, Try.ntmps17
  go_wp2_with fail
  refine (tile_any n x y _).mono ?_
  rintro e w2 ⟨rfl, hb2⟩
  rw [ht.out]
  have hw := (by go_grown : Below w.heap.size w (w.alloc (.cells #[.int .i64 n, .int .i64 x, .int .i64 y] 25))).trans (hb2.mono (by simp))
  have g0 : w2.heap[w.heap.size]? = some (.cells #[.int .i64 n, .int .i64 x, .int .i64 y] 25) := (hb2.block _ (by simp)).trans (heap_alloc_is rfl)
  have hz := lt_of_some g0
  clear hb2
  have c0 : w2.cell? ⟨w.heap.size, 0, none⟩ = some (.int .i64 n) := cell_of_block g0 rfl
  go_wp2_with fail
  clear c0
  go_loopw [4, 5] (fun s4 s5 wr => ∃ j : Nat, j ≤ n ∧ s5 = .int .i64 (j - 1) ∧ wr.ownsRow (w.heap.size + 1) 5 1 s4 (n - j) ((keyI (n - j) (x / 2 ^ j) (y / 2 ^ j)).map (Value.int .u8)) ∧ Below (w.heap.size + 1) w2 wr) (fun _ s5 _ => (intOf s5 + 1).toNat)
  case atStart => exact ⟨n, Nat.le_refl _, rfl, by rw [Nat.sub_self]; exact World.ownsRow_nil _ _ _ _, Below.refl _ _⟩
  case round =>
    obtain ⟨j, hj, rfl, hown, hbr⟩ := hrel
    have gr := (hbr.block _ (by omega)).trans g0
    cases j with
    | zero =>
      have h0 : x / 2 ^ 0 = x := by simp
      have h1 : y / 2 ^ 0 = y := by simp
      rw [h0, h1, Nat.sub_zero, ← keyL_vals] at hown
      have hcv := str_of_own hown (keyL_len n x y)
      have hfin := hw.trans (hbr.mono (by omega))
      clear hown h0 h1 hbr gr g0 hw
      go_wp2_with fail
      go_ret2
      exact ⟨rfl, hfin⟩
    | succ m =>
      have c1 : wr.cell? ⟨w.heap.size, 1, none⟩ = some (.int .i64 x) := cell_of_block gr rfl
      have c2 : wr.cell? ⟨w.heap.size, 2, none⟩ = some (.int .i64 y) := cell_of_block gr rfl
      have hzr := lt_of_some gr
      go_upto_region 7 with (fail)
      have ax := and_one (x / 2 ^ m)
      have ay := and_one (y / 2 ^ m)
      have hlen := keyI_len (n - (m + 1)) (x / 2 ^ (m + 1)) (y / 2 ^ (m + 1))
      have hxs : keyI (n - m) (x / 2 ^ m) (y / 2 ^ m) = keyI (n - (m + 1)) (x / 2 ^ (m + 1)) (y / 2 ^ (m + 1)) ++ [digI (x / 2 ^ m) (y / 2 ^ m)] := by
        have e : n - m = (n - (m + 1)) + 1 := by omega
        have hd : ∀ v : Int, v / 2 ^ m / 2 = v / 2 ^ (m + 1) := fun v => by rw [Int.pow_succ, Int.ediv_ediv_of_nonneg (Int.le_of_lt (t2_pos m))]
        rw [e]
        show keyI (n - (m + 1)) (x / 2 ^ m / 2) (y / 2 ^ m / 2) ++ _ = _
        rw [hd, hd]
      have Hxs := Lib.hid hxs
      clear hxs hlen
      have hbx : 0 ≤ x / 2 ^ m % 2 ∧ x / 2 ^ m % 2 ≤ 1 := by omega
      have hby : 0 ≤ y / 2 ^ m % 2 ∧ y / 2 ^ m % 2 ≤ 1 := by omega
      have hdg : digI (x / 2 ^ m) (y / 2 ^ m) = 48 + (x / 2 ^ m % 2 + 2 * (y / 2 ^ m % 2)) := rfl
      generalize hX : x / 2 ^ m = X at *
      generalize hY : y / 2 ^ m = Y at *
      generalize hbxe : X % 2 = bx at *
      generalize hbye : Y % 2 = by' at *
      clear hbxe hbye
      have Hdg := Lib.hid hdg
      clear hdg
      have e1 : IntKind.i64.wrap (2 * by') = 2 * by' := IntWalk.i64_in _ (by omega)
      have e2 : IntKind.i64.wrap (bx + 2 * by') = bx + 2 * by' := IntWalk.i64_in _ (by omega)
      have e3 : IntKind.u8.wrap (bx + 2 * by') = bx + 2 * by' := by simp [IntKind.wrap, IntKind.bits, IntKind.signed]; omega
      have e4 : IntKind.u8.wrap (48 + (bx + 2 * by')) = 48 + (bx + 2 * by') := by simp [IntKind.wrap, IntKind.bits, IntKind.signed]; omega
      have hne : (some w.heap.size : Option Nat) ≠ Value.ownBlock u4 := fun h => by have := (hown.lt _ h.symm).1; omega
      go_region_held3 (fun w' => w'.cell? ⟨w.heap.size, 1, none⟩ = some (.int .i64 x) ∧ w'.cell? ⟨w.heap.size, 2, none⟩ = some (.int .i64 y))
        (first
          | go_keep
          | (go_split_ands
             refine ⟨?_, ?_⟩
             · (rw [hgrow.cell_far _ (by simp; omega) (by exact hne)]; assumption)
             · (rw [hgrow.cell_far _ (by simp; omega) (by exact hne)]; assumption)))
        ((refine step_append_lies _ (by rfl) _ _ _ (by rfl) (w.heap.size + 1) 5 i0 _ 1 1 Try.underlying66 hi0 hz0 hz1 hz2 rfl (by omega) _ (n - (m + 1)) _ (by rfl) ((hown.alloc _).drew)
            ⟨wr.heap.size, 0, none⟩ 1 1 [.int .u8 (48 + (bx + 2 * by'))] (by rfl) (by rfl) (World.news_of_block (cs := #[.int .u8 (48 + (bx + 2 * by'))]) (t := 5) (fr := (0, 0)) (heap_alloc_new wr _)) (by simp [Value.oneCell'])
            (by omega) (by unfold maxLen; omega) (by omega) (by simp; omega) (wr.heap.size + 1) (by simp) ?_; intro gg cap w3 hown1 hgrow hat hlt))
      have hb3 : Below (w.heap.size + 1) w2 w3 := (((hbr.alloc (by omega) _).drew).grown hgrow (by simp; omega) (fun k hk => (hown.lt k hk).1))
      have hown3 : w3.ownsRow (w.heap.size + 1) 5 1 (.slice (some ⟨gg, 0, none⟩) (n - (m + 1) + 1) cap) (n - m) ((keyI (n - m) X Y).map (Value.int .u8)) := by
        rw [Hxs.out, List.map_append, Hdg.out]
        have e : n - m = n - (m + 1) + 1 := by omega
        rw [e]
        exact hown1
      clear hown1 hgrow hat hlt hne e1 e2 e3 e4 ax ay hown hbr c1 c2 gr
      have Hown := Lib.hid hown3
      have HX := Lib.hid hX
      have HY := Lib.hid hY
      clear hown3 hX hY
      go_wp2
      go_roundw
      case rel => exact ⟨m, by omega, rfl, by rw [HX.out, HY.out]; exact Hown.out, hb3⟩
      case measure => simp [intOf]

theorem tkey_no (z x y : Int) (w : World) (ht : Hid (tilB z x y = false)) :
    Calls Try.prog 17 #[.agg #[.int .i64 z, .int .i64 x, .int .i64 y]] w fun e w' => e = .returned (.tuple #[.string ⟨#[]⟩, .int .i64 1]) ∧ Below w.heap.size w w' := by
  go_enter Try.func17, Try.ntmps17
  go_wp2_with fail
  refine (tile_any z x y _).mono ?_
  rintro e w2 ⟨rfl, hb2⟩
  rw [ht.out]
  have hw := (by go_grown : Below w.heap.size w (w.alloc (.cells #[.int .i64 z, .int .i64 x, .int .i64 y] 25))).trans (hb2.mono (by simp))
  clear hb2
  go_wp2_with fail
  go_ret2
  exact ⟨rfl, hw⟩
end Go.Proofs.Ytnpilmjpinmgfaa
