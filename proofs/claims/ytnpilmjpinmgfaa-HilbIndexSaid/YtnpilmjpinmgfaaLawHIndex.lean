/-
  PROVED: HilbIndex: the index of a square on a curve, that it has that square, and the key of a point, as the document's answer has them. CONDITIONS: none: for every order and every two points.
-/
import Derived.Test.YtnpilmjpinmgfaaHLaw1
import Derived.Test.YtnpilmjpinmgfaaHKey
import Derived.Test.YtnpilmjpinmgfaaKit
import Derived.Lib.Hide
namespace Go.Proofs.Ytnpilmjpinmgfaa
open Go.RowKit Go.Proofs.Ytnpilmjpinmgfaa.Tame
set_option maxHeartbeats 400000


theorem keep {W w1 : World} {k : Nat} {o : Obj} (hb : Below W.heap.size W w1) (g : W.heap[k]? = some o) : w1.heap[k]? = some o := (hb.block _ (lt_of_some g)).trans g
theorem tPt : Try.prog.cellTypes Try.prog.depth 23 = some [3, 3] := by kernel_rfl
theorem cPt : Try.prog.cellsOf 23 = 2 := by kernel_rfl
theorem uInt : ∀ u, u ∈ ([3, 3] : List TypeId) → Try.prog.underlying u = some (.int .i64) := by
  intro u hu; simp at hu; subst hu; exact Try.underlying3


set_option maxHeartbeats 1000000 in
theorem hilbindex_00 (k x y u v : Int) (w : World) (Hkey : Hid (∀ w, Calls Try.prog 25 #[.agg #[.int .i64 u, .int .i64 v]] w fun e w' => e = .returned (.tuple #[.int .i64 0, .int .i64 6]) ∧ Below w.heap.size w w')) (Hmay : Hid (∀ w, Calls Try.prog 10 #[.agg #[.int .i64 u, .int .i64 v]] w fun e w' => e = .returned (.bool false) ∧ Below w.heap.size w w')) (Hidx : Hid (∀ w, Calls Try.prog 24 #[.int .i64 k, .agg #[.int .i64 x, .int .i64 y]] w fun e w' => e = .returned (.tuple #[.int .i64 0, .int .i64 1]) ∧ Below w.heap.size w w')) (Hins : Hid (∀ w, Calls Try.prog 15 #[.int .i64 k, .agg #[.int .i64 x, .int .i64 y]] w fun e w' => e = .returned (.bool false) ∧ Below w.heap.size w w')) :
    Calls Try.prog 6 #[.int .i64 k, .agg #[.int .i64 x, .int .i64 y], .agg #[.int .i64 u, .int .i64 v]] w fun e w' => e = .returned (.bool true) ∧ Below w.heap.size w w' := by
  go_enter Try.func6, Try.ntmps6
  go_wp2_with fail
  refine (Hidx.out _).mono ?_
  rintro e w1 ⟨rfl, hb1⟩
  have hw1 : Below w.heap.size w w1 := (by go_grown : Below w.heap.size w ((w.alloc (.cells #[.int .i64 x, .int .i64 y] 23)).alloc (.cells #[.int .i64 u, .int .i64 v] 23))).trans (hb1.mono (by simp; omega))
  have gp1 : w1.heap[w.heap.size]? = some (.cells #[.int .i64 x, .int .i64 y] 23) := keep hb1 (heap_alloc_lt (heap_alloc_is rfl))
  have gq1 : w1.heap[w.heap.size + 1]? = some (.cells #[.int .i64 u, .int .i64 v] 23) := keep hb1 (heap_alloc_is (by simp))
  clear hb1
  have p0 : w1.cell? ⟨w.heap.size, 0, none⟩ = some (.int .i64 x) := cell_of_block gp1 rfl
  have p1 : w1.cell? ⟨w.heap.size, 1, none⟩ = some (.int .i64 y) := cell_of_block gp1 rfl
  have q0 : w1.cell? ⟨w.heap.size + 1, 0, none⟩ = some (.int .i64 u) := cell_of_block gq1 rfl
  have q1 : w1.cell? ⟨w.heap.size + 1, 1, none⟩ = some (.int .i64 v) := cell_of_block gq1 rfl
  go_wp2_with fail
  refine (Hkey.out _).mono ?_
  rintro e w2 ⟨rfl, hb2⟩
  have hw2 := hw1.trans (hb2.mono hw1.size)
  have gp2 := keep hb2 gp1
  have gq2 := keep hb2 gq1
  clear p0 p1 q0 q1 hb2 hw1 gp1 gq1
  have p0 : w2.cell? ⟨w.heap.size, 0, none⟩ = some (.int .i64 x) := cell_of_block gp2 rfl
  have p1 : w2.cell? ⟨w.heap.size, 1, none⟩ = some (.int .i64 y) := cell_of_block gp2 rfl
  have q0 : w2.cell? ⟨w.heap.size + 1, 0, none⟩ = some (.int .i64 u) := cell_of_block gq2 rfl
  have q1 : w2.cell? ⟨w.heap.size + 1, 1, none⟩ = some (.int .i64 v) := cell_of_block gq2 rfl
  go_wp2_with fail
  refine (Hmay.out _).mono ?_
  rintro e w3 ⟨rfl, hb3⟩
  have hw3 := hw2.trans (hb3.mono hw2.size)
  have gp3 := keep hb3 gp2
  have gq3 := keep hb3 gq2
  clear p0 p1 q0 q1 hb3 hw2 gp2 gq2
  have p0 : w3.cell? ⟨w.heap.size, 0, none⟩ = some (.int .i64 x) := cell_of_block gp3 rfl
  have p1 : w3.cell? ⟨w.heap.size, 1, none⟩ = some (.int .i64 y) := cell_of_block gp3 rfl
  have q0 : w3.cell? ⟨w.heap.size + 1, 0, none⟩ = some (.int .i64 u) := cell_of_block gq3 rfl
  have q1 : w3.cell? ⟨w.heap.size + 1, 1, none⟩ = some (.int .i64 v) := cell_of_block gq3 rfl
  go_wp2_with fail
  refine (Hins.out _).mono ?_
  rintro e w4 ⟨rfl, hb4⟩
  have hw4 := hw3.trans (hb4.mono hw3.size)
  have gp4 := keep hb4 gp3
  have gq4 := keep hb4 gq3
  clear p0 p1 q0 q1 hb4 hw3 gp3 gq3
  go_wp2_with fail
  refine (hawake_any _).mono ?_
  rintro e wz ⟨rfl, hbz⟩
  go_wp2_with fail
  go_ret
  exact ⟨rfl, hw4.trans (hbz.mono hw4.size)⟩


set_option maxHeartbeats 1000000 in
theorem hilbindex_01 (k x y u v R : Int) (w : World) (Hkey : Hid (∀ w, Calls Try.prog 25 #[.agg #[.int .i64 u, .int .i64 v]] w fun e w' => e = .returned (.tuple #[.int .i64 0, .int .i64 6]) ∧ Below w.heap.size w w')) (Hmay : Hid (∀ w, Calls Try.prog 10 #[.agg #[.int .i64 u, .int .i64 v]] w fun e w' => e = .returned (.bool false) ∧ Below w.heap.size w w')) (Hidx : Hid (∀ w, Calls Try.prog 24 #[.int .i64 k, .agg #[.int .i64 x, .int .i64 y]] w fun e w' => e = .returned (.tuple #[.int .i64 R, .int .i64 0]) ∧ Below w.heap.size w w')) (Hins : Hid (∀ w, Calls Try.prog 15 #[.int .i64 k, .agg #[.int .i64 x, .int .i64 y]] w fun e w' => e = .returned (.bool true) ∧ Below w.heap.size w w')) (Hpt : Hid (∀ w, Calls Try.prog 13 #[.int .i64 k, .int .i64 R] w fun e w' => e = .returned (.tuple #[.agg #[.int .i64 x, .int .i64 y], .int .i64 0]) ∧ Below w.heap.size w w')) (Hri : Hid (∀ w, Calls Try.prog 16 #[.int .i64 k, .agg #[.int .i64 x, .int .i64 y]] w fun e w' => e = .returned (.int .i64 R) ∧ Below w.heap.size w w')) :
    Calls Try.prog 6 #[.int .i64 k, .agg #[.int .i64 x, .int .i64 y], .agg #[.int .i64 u, .int .i64 v]] w fun e w' => e = .returned (.bool true) ∧ Below w.heap.size w w' := by
  go_enter Try.func6, Try.ntmps6
  go_wp2_with fail
  refine (Hidx.out _).mono ?_
  rintro e w1 ⟨rfl, hb1⟩
  have hw1 : Below w.heap.size w w1 := (by go_grown : Below w.heap.size w ((w.alloc (.cells #[.int .i64 x, .int .i64 y] 23)).alloc (.cells #[.int .i64 u, .int .i64 v] 23))).trans (hb1.mono (by simp; omega))
  have gp1 : w1.heap[w.heap.size]? = some (.cells #[.int .i64 x, .int .i64 y] 23) := keep hb1 (heap_alloc_lt (heap_alloc_is rfl))
  have gq1 : w1.heap[w.heap.size + 1]? = some (.cells #[.int .i64 u, .int .i64 v] 23) := keep hb1 (heap_alloc_is (by simp))
  clear hb1
  have p0 : w1.cell? ⟨w.heap.size, 0, none⟩ = some (.int .i64 x) := cell_of_block gp1 rfl
  have p1 : w1.cell? ⟨w.heap.size, 1, none⟩ = some (.int .i64 y) := cell_of_block gp1 rfl
  have q0 : w1.cell? ⟨w.heap.size + 1, 0, none⟩ = some (.int .i64 u) := cell_of_block gq1 rfl
  have q1 : w1.cell? ⟨w.heap.size + 1, 1, none⟩ = some (.int .i64 v) := cell_of_block gq1 rfl
  go_wp2_with fail
  refine (Hkey.out _).mono ?_
  rintro e w2 ⟨rfl, hb2⟩
  have hw2 := hw1.trans (hb2.mono hw1.size)
  have gp2 := keep hb2 gp1
  have gq2 := keep hb2 gq1
  clear p0 p1 q0 q1 hb2 hw1 gp1 gq1
  have p0 : w2.cell? ⟨w.heap.size, 0, none⟩ = some (.int .i64 x) := cell_of_block gp2 rfl
  have p1 : w2.cell? ⟨w.heap.size, 1, none⟩ = some (.int .i64 y) := cell_of_block gp2 rfl
  have q0 : w2.cell? ⟨w.heap.size + 1, 0, none⟩ = some (.int .i64 u) := cell_of_block gq2 rfl
  have q1 : w2.cell? ⟨w.heap.size + 1, 1, none⟩ = some (.int .i64 v) := cell_of_block gq2 rfl
  go_wp2_with fail
  refine (Hmay.out _).mono ?_
  rintro e w3 ⟨rfl, hb3⟩
  have hw3 := hw2.trans (hb3.mono hw2.size)
  have gp3 := keep hb3 gp2
  have gq3 := keep hb3 gq2
  clear p0 p1 q0 q1 hb3 hw2 gp2 gq2
  have p0 : w3.cell? ⟨w.heap.size, 0, none⟩ = some (.int .i64 x) := cell_of_block gp3 rfl
  have p1 : w3.cell? ⟨w.heap.size, 1, none⟩ = some (.int .i64 y) := cell_of_block gp3 rfl
  have q0 : w3.cell? ⟨w.heap.size + 1, 0, none⟩ = some (.int .i64 u) := cell_of_block gq3 rfl
  have q1 : w3.cell? ⟨w.heap.size + 1, 1, none⟩ = some (.int .i64 v) := cell_of_block gq3 rfl
  go_wp2_with fail
  refine (Hins.out _).mono ?_
  rintro e w4 ⟨rfl, hb4⟩
  have hw4 := hw3.trans (hb4.mono hw3.size)
  have gp4 := keep hb4 gp3
  have gq4 := keep hb4 gq3
  clear p0 p1 q0 q1 hb4 hw3 gp3 gq3
  have p0 : w4.cell? ⟨w.heap.size, 0, none⟩ = some (.int .i64 x) := cell_of_block gp4 rfl
  have p1 : w4.cell? ⟨w.heap.size, 1, none⟩ = some (.int .i64 y) := cell_of_block gp4 rfl
  have q0 : w4.cell? ⟨w.heap.size + 1, 0, none⟩ = some (.int .i64 u) := cell_of_block gq4 rfl
  have q1 : w4.cell? ⟨w.heap.size + 1, 1, none⟩ = some (.int .i64 v) := cell_of_block gq4 rfl
  go_wp2_with fail
  refine (Hpt.out _).mono ?_
  rintro e w5 ⟨rfl, hb5⟩
  have hw5 := hw4.trans (hb5.mono hw4.size)
  have gp5 := keep hb5 gp4
  have gq5 := keep hb5 gq4
  clear p0 p1 q0 q1 hb5 hw4 gp4 gq4
  have hz := lt_of_some gp5
  have p0 : w5.cell? ⟨w.heap.size, 0, none⟩ = some (.int .i64 x) := cell_of_block gp5 rfl
  have p1 : w5.cell? ⟨w.heap.size, 1, none⟩ = some (.int .i64 y) := cell_of_block gp5 rfl
  have q0 : w5.cell? ⟨w.heap.size + 1, 0, none⟩ = some (.int .i64 u) := cell_of_block gq5 rfl
  have q1 : w5.cell? ⟨w.heap.size + 1, 1, none⟩ = some (.int .i64 v) := cell_of_block gq5 rfl
  go_wp2_with fail
  refine (Hri.out _).mono ?_
  rintro e wy ⟨rfl, hby⟩
  have gx : wy.heap[w5.heap.size]? = some (.cells #[.int .i64 x, .int .i64 y] 23) := keep hby (heap_alloc_is rfl)
  have gpy := keep hby (heap_alloc_lt gp5)
  have hwy := (hw5.alloc hw5.size (.cells #[.int .i64 x, .int .i64 y] 23)).trans (hby.mono (by simp; have := hw5.size; omega))
  clear p0 p1 q0 q1 hby
  have p0 : wy.cell? ⟨w.heap.size, 0, none⟩ = some (.int .i64 x) := cell_of_block gpy rfl
  have p1 : wy.cell? ⟨w.heap.size, 1, none⟩ = some (.int .i64 y) := cell_of_block gpy rfl
  have q0 : wy.cell? ⟨w5.heap.size, 0, none⟩ = some (.int .i64 x) := cell_of_block gx rfl
  have q1 : wy.cell? ⟨w5.heap.size, 1, none⟩ = some (.int .i64 y) := cell_of_block gx rfl
  go_wp2_with fail
  refine (hawake_any _).mono ?_
  rintro e wz ⟨rfl, hbz⟩
  go_wp2_with fail
  go_ret
  exact ⟨rfl, hwy.trans (hbz.mono hwy.size)⟩


set_option maxHeartbeats 1000000 in
theorem hilbindex_10 (k x y u v K : Int) (w : World) (Hkey : Hid (∀ w, Calls Try.prog 25 #[.agg #[.int .i64 u, .int .i64 v]] w fun e w' => e = .returned (.tuple #[.int .i64 K, .int .i64 0]) ∧ Below w.heap.size w w')) (Hmay : Hid (∀ w, Calls Try.prog 10 #[.agg #[.int .i64 u, .int .i64 v]] w fun e w' => e = .returned (.bool true) ∧ Below w.heap.size w w')) (Hidx : Hid (∀ w, Calls Try.prog 24 #[.int .i64 k, .agg #[.int .i64 x, .int .i64 y]] w fun e w' => e = .returned (.tuple #[.int .i64 0, .int .i64 1]) ∧ Below w.heap.size w w')) (Hins : Hid (∀ w, Calls Try.prog 15 #[.int .i64 k, .agg #[.int .i64 x, .int .i64 y]] w fun e w' => e = .returned (.bool false) ∧ Below w.heap.size w w')) (Hrk : Hid (∀ w, Calls Try.prog 26 #[.agg #[.int .i64 u, .int .i64 v]] w fun e w' => e = .returned (.int .i64 K) ∧ Below w.heap.size w w')) :
    Calls Try.prog 6 #[.int .i64 k, .agg #[.int .i64 x, .int .i64 y], .agg #[.int .i64 u, .int .i64 v]] w fun e w' => e = .returned (.bool true) ∧ Below w.heap.size w w' := by
  go_enter Try.func6, Try.ntmps6
  go_wp2_with fail
  refine (Hidx.out _).mono ?_
  rintro e w1 ⟨rfl, hb1⟩
  have hw1 : Below w.heap.size w w1 := (by go_grown : Below w.heap.size w ((w.alloc (.cells #[.int .i64 x, .int .i64 y] 23)).alloc (.cells #[.int .i64 u, .int .i64 v] 23))).trans (hb1.mono (by simp; omega))
  have gp1 : w1.heap[w.heap.size]? = some (.cells #[.int .i64 x, .int .i64 y] 23) := keep hb1 (heap_alloc_lt (heap_alloc_is rfl))
  have gq1 : w1.heap[w.heap.size + 1]? = some (.cells #[.int .i64 u, .int .i64 v] 23) := keep hb1 (heap_alloc_is (by simp))
  clear hb1
  have p0 : w1.cell? ⟨w.heap.size, 0, none⟩ = some (.int .i64 x) := cell_of_block gp1 rfl
  have p1 : w1.cell? ⟨w.heap.size, 1, none⟩ = some (.int .i64 y) := cell_of_block gp1 rfl
  have q0 : w1.cell? ⟨w.heap.size + 1, 0, none⟩ = some (.int .i64 u) := cell_of_block gq1 rfl
  have q1 : w1.cell? ⟨w.heap.size + 1, 1, none⟩ = some (.int .i64 v) := cell_of_block gq1 rfl
  go_wp2_with fail
  refine (Hkey.out _).mono ?_
  rintro e w2 ⟨rfl, hb2⟩
  have hw2 := hw1.trans (hb2.mono hw1.size)
  have gp2 := keep hb2 gp1
  have gq2 := keep hb2 gq1
  clear p0 p1 q0 q1 hb2 hw1 gp1 gq1
  have p0 : w2.cell? ⟨w.heap.size, 0, none⟩ = some (.int .i64 x) := cell_of_block gp2 rfl
  have p1 : w2.cell? ⟨w.heap.size, 1, none⟩ = some (.int .i64 y) := cell_of_block gp2 rfl
  have q0 : w2.cell? ⟨w.heap.size + 1, 0, none⟩ = some (.int .i64 u) := cell_of_block gq2 rfl
  have q1 : w2.cell? ⟨w.heap.size + 1, 1, none⟩ = some (.int .i64 v) := cell_of_block gq2 rfl
  go_wp2_with fail
  refine (Hmay.out _).mono ?_
  rintro e w3 ⟨rfl, hb3⟩
  have hw3 := hw2.trans (hb3.mono hw2.size)
  have gp3 := keep hb3 gp2
  have gq3 := keep hb3 gq2
  clear p0 p1 q0 q1 hb3 hw2 gp2 gq2
  have p0 : w3.cell? ⟨w.heap.size, 0, none⟩ = some (.int .i64 x) := cell_of_block gp3 rfl
  have p1 : w3.cell? ⟨w.heap.size, 1, none⟩ = some (.int .i64 y) := cell_of_block gp3 rfl
  have q0 : w3.cell? ⟨w.heap.size + 1, 0, none⟩ = some (.int .i64 u) := cell_of_block gq3 rfl
  have q1 : w3.cell? ⟨w.heap.size + 1, 1, none⟩ = some (.int .i64 v) := cell_of_block gq3 rfl
  go_wp2_with fail
  refine (Hrk.out _).mono ?_
  rintro e w4 ⟨rfl, hb4⟩
  have hw4 := hw3.trans (hb4.mono hw3.size)
  have gp4 := keep hb4 gp3
  have gq4 := keep hb4 gq3
  clear p0 p1 q0 q1 hb4 hw3 gp3 gq3
  have p0 : w4.cell? ⟨w.heap.size, 0, none⟩ = some (.int .i64 x) := cell_of_block gp4 rfl
  have p1 : w4.cell? ⟨w.heap.size, 1, none⟩ = some (.int .i64 y) := cell_of_block gp4 rfl
  have q0 : w4.cell? ⟨w.heap.size + 1, 0, none⟩ = some (.int .i64 u) := cell_of_block gq4 rfl
  have q1 : w4.cell? ⟨w.heap.size + 1, 1, none⟩ = some (.int .i64 v) := cell_of_block gq4 rfl
  go_wp2_with fail
  refine (Hins.out _).mono ?_
  rintro e w5 ⟨rfl, hb5⟩
  have hw5 := hw4.trans (hb5.mono hw4.size)
  have gp5 := keep hb5 gp4
  have gq5 := keep hb5 gq4
  clear p0 p1 q0 q1 hb5 hw4 gp4 gq4
  go_wp2_with fail
  refine (hawake_any _).mono ?_
  rintro e wz ⟨rfl, hbz⟩
  go_wp2_with fail
  go_ret
  exact ⟨rfl, hw5.trans (hbz.mono hw5.size)⟩


set_option maxHeartbeats 1000000 in
theorem hilbindex_11 (k x y u v K R : Int) (w : World) (Hkey : Hid (∀ w, Calls Try.prog 25 #[.agg #[.int .i64 u, .int .i64 v]] w fun e w' => e = .returned (.tuple #[.int .i64 K, .int .i64 0]) ∧ Below w.heap.size w w')) (Hmay : Hid (∀ w, Calls Try.prog 10 #[.agg #[.int .i64 u, .int .i64 v]] w fun e w' => e = .returned (.bool true) ∧ Below w.heap.size w w')) (Hidx : Hid (∀ w, Calls Try.prog 24 #[.int .i64 k, .agg #[.int .i64 x, .int .i64 y]] w fun e w' => e = .returned (.tuple #[.int .i64 R, .int .i64 0]) ∧ Below w.heap.size w w')) (Hins : Hid (∀ w, Calls Try.prog 15 #[.int .i64 k, .agg #[.int .i64 x, .int .i64 y]] w fun e w' => e = .returned (.bool true) ∧ Below w.heap.size w w')) (Hrk : Hid (∀ w, Calls Try.prog 26 #[.agg #[.int .i64 u, .int .i64 v]] w fun e w' => e = .returned (.int .i64 K) ∧ Below w.heap.size w w')) (Hpt : Hid (∀ w, Calls Try.prog 13 #[.int .i64 k, .int .i64 R] w fun e w' => e = .returned (.tuple #[.agg #[.int .i64 x, .int .i64 y], .int .i64 0]) ∧ Below w.heap.size w w')) (Hri : Hid (∀ w, Calls Try.prog 16 #[.int .i64 k, .agg #[.int .i64 x, .int .i64 y]] w fun e w' => e = .returned (.int .i64 R) ∧ Below w.heap.size w w')) :
    Calls Try.prog 6 #[.int .i64 k, .agg #[.int .i64 x, .int .i64 y], .agg #[.int .i64 u, .int .i64 v]] w fun e w' => e = .returned (.bool true) ∧ Below w.heap.size w w' := by
  go_enter Try.func6, Try.ntmps6
  go_wp2_with fail
  refine (Hidx.out _).mono ?_
  rintro e w1 ⟨rfl, hb1⟩
  have hw1 : Below w.heap.size w w1 := (by go_grown : Below w.heap.size w ((w.alloc (.cells #[.int .i64 x, .int .i64 y] 23)).alloc (.cells #[.int .i64 u, .int .i64 v] 23))).trans (hb1.mono (by simp; omega))
  have gp1 : w1.heap[w.heap.size]? = some (.cells #[.int .i64 x, .int .i64 y] 23) := keep hb1 (heap_alloc_lt (heap_alloc_is rfl))
  have gq1 : w1.heap[w.heap.size + 1]? = some (.cells #[.int .i64 u, .int .i64 v] 23) := keep hb1 (heap_alloc_is (by simp))
  clear hb1
  have p0 : w1.cell? ⟨w.heap.size, 0, none⟩ = some (.int .i64 x) := cell_of_block gp1 rfl
  have p1 : w1.cell? ⟨w.heap.size, 1, none⟩ = some (.int .i64 y) := cell_of_block gp1 rfl
  have q0 : w1.cell? ⟨w.heap.size + 1, 0, none⟩ = some (.int .i64 u) := cell_of_block gq1 rfl
  have q1 : w1.cell? ⟨w.heap.size + 1, 1, none⟩ = some (.int .i64 v) := cell_of_block gq1 rfl
  go_wp2_with fail
  refine (Hkey.out _).mono ?_
  rintro e w2 ⟨rfl, hb2⟩
  have hw2 := hw1.trans (hb2.mono hw1.size)
  have gp2 := keep hb2 gp1
  have gq2 := keep hb2 gq1
  clear p0 p1 q0 q1 hb2 hw1 gp1 gq1
  have p0 : w2.cell? ⟨w.heap.size, 0, none⟩ = some (.int .i64 x) := cell_of_block gp2 rfl
  have p1 : w2.cell? ⟨w.heap.size, 1, none⟩ = some (.int .i64 y) := cell_of_block gp2 rfl
  have q0 : w2.cell? ⟨w.heap.size + 1, 0, none⟩ = some (.int .i64 u) := cell_of_block gq2 rfl
  have q1 : w2.cell? ⟨w.heap.size + 1, 1, none⟩ = some (.int .i64 v) := cell_of_block gq2 rfl
  go_wp2_with fail
  refine (Hmay.out _).mono ?_
  rintro e w3 ⟨rfl, hb3⟩
  have hw3 := hw2.trans (hb3.mono hw2.size)
  have gp3 := keep hb3 gp2
  have gq3 := keep hb3 gq2
  clear p0 p1 q0 q1 hb3 hw2 gp2 gq2
  have p0 : w3.cell? ⟨w.heap.size, 0, none⟩ = some (.int .i64 x) := cell_of_block gp3 rfl
  have p1 : w3.cell? ⟨w.heap.size, 1, none⟩ = some (.int .i64 y) := cell_of_block gp3 rfl
  have q0 : w3.cell? ⟨w.heap.size + 1, 0, none⟩ = some (.int .i64 u) := cell_of_block gq3 rfl
  have q1 : w3.cell? ⟨w.heap.size + 1, 1, none⟩ = some (.int .i64 v) := cell_of_block gq3 rfl
  go_wp2_with fail
  refine (Hrk.out _).mono ?_
  rintro e w4 ⟨rfl, hb4⟩
  have hw4 := hw3.trans (hb4.mono hw3.size)
  have gp4 := keep hb4 gp3
  have gq4 := keep hb4 gq3
  clear p0 p1 q0 q1 hb4 hw3 gp3 gq3
  have p0 : w4.cell? ⟨w.heap.size, 0, none⟩ = some (.int .i64 x) := cell_of_block gp4 rfl
  have p1 : w4.cell? ⟨w.heap.size, 1, none⟩ = some (.int .i64 y) := cell_of_block gp4 rfl
  have q0 : w4.cell? ⟨w.heap.size + 1, 0, none⟩ = some (.int .i64 u) := cell_of_block gq4 rfl
  have q1 : w4.cell? ⟨w.heap.size + 1, 1, none⟩ = some (.int .i64 v) := cell_of_block gq4 rfl
  go_wp2_with fail
  refine (Hins.out _).mono ?_
  rintro e w5 ⟨rfl, hb5⟩
  have hw5 := hw4.trans (hb5.mono hw4.size)
  have gp5 := keep hb5 gp4
  have gq5 := keep hb5 gq4
  clear p0 p1 q0 q1 hb5 hw4 gp4 gq4
  have p0 : w5.cell? ⟨w.heap.size, 0, none⟩ = some (.int .i64 x) := cell_of_block gp5 rfl
  have p1 : w5.cell? ⟨w.heap.size, 1, none⟩ = some (.int .i64 y) := cell_of_block gp5 rfl
  have q0 : w5.cell? ⟨w.heap.size + 1, 0, none⟩ = some (.int .i64 u) := cell_of_block gq5 rfl
  have q1 : w5.cell? ⟨w.heap.size + 1, 1, none⟩ = some (.int .i64 v) := cell_of_block gq5 rfl
  go_wp2_with fail
  refine (Hpt.out _).mono ?_
  rintro e w6 ⟨rfl, hb6⟩
  have hw6 := hw5.trans (hb6.mono hw5.size)
  have gp6 := keep hb6 gp5
  have gq6 := keep hb6 gq5
  clear p0 p1 q0 q1 hb6 hw5 gp5 gq5
  have hz := lt_of_some gp6
  have p0 : w6.cell? ⟨w.heap.size, 0, none⟩ = some (.int .i64 x) := cell_of_block gp6 rfl
  have p1 : w6.cell? ⟨w.heap.size, 1, none⟩ = some (.int .i64 y) := cell_of_block gp6 rfl
  have q0 : w6.cell? ⟨w.heap.size + 1, 0, none⟩ = some (.int .i64 u) := cell_of_block gq6 rfl
  have q1 : w6.cell? ⟨w.heap.size + 1, 1, none⟩ = some (.int .i64 v) := cell_of_block gq6 rfl
  go_wp2_with fail
  refine (Hri.out _).mono ?_
  rintro e wy ⟨rfl, hby⟩
  have gx : wy.heap[w6.heap.size]? = some (.cells #[.int .i64 x, .int .i64 y] 23) := keep hby (heap_alloc_is rfl)
  have gpy := keep hby (heap_alloc_lt gp6)
  have hwy := (hw6.alloc hw6.size (.cells #[.int .i64 x, .int .i64 y] 23)).trans (hby.mono (by simp; have := hw6.size; omega))
  clear p0 p1 q0 q1 hby
  have p0 : wy.cell? ⟨w.heap.size, 0, none⟩ = some (.int .i64 x) := cell_of_block gpy rfl
  have p1 : wy.cell? ⟨w.heap.size, 1, none⟩ = some (.int .i64 y) := cell_of_block gpy rfl
  have q0 : wy.cell? ⟨w6.heap.size, 0, none⟩ = some (.int .i64 x) := cell_of_block gx rfl
  have q1 : wy.cell? ⟨w6.heap.size, 1, none⟩ = some (.int .i64 y) := cell_of_block gx rfl
  go_wp2_with fail
  refine (hawake_any _).mono ?_
  rintro e wz ⟨rfl, hbz⟩
  go_wp2_with fail
  go_ret
  exact ⟨rfl, hwy.trans (hbz.mono hwy.size)⟩


theorem hilbindex_all (k x y u v : Int) (w : World) : Calls Try.prog 6 #[.int .i64 k, .agg #[.int .i64 x, .int .i64 y], .agg #[.int .i64 u, .int .i64 v]] w fun e w' => e = .returned (.bool true) ∧ Below w.heap.size w w' := by
  cases hi : insB k x y <;> cases hm : mayB u v
  · exact hilbindex_00 k x y u v w (Lib.hid fun w => hkey_no u v w (fun h => by simp [mayB, inB, h.1.1, h.1.2, h.2.1, h.2.2] at hm)) (Lib.hid fun w => by rw [← hm]; exact refmay_any u v w) (Lib.hid fun w => hindex_no k x y w hi) (Lib.hid fun w => by rw [← hi]; exact refinside_any k x y w)
  · exact hilbindex_10 k x y u v _ w (Lib.hid fun w => hkey_yes u v w (mayB_x hm) (mayB_y hm)) (Lib.hid fun w => by rw [← hm]; exact refmay_any u v w) (Lib.hid fun w => hindex_no k x y w hi) (Lib.hid fun w => by rw [← hi]; exact refinside_any k x y w) (Lib.hid fun w => refkey_any u v w (mayB_x hm) (mayB_y hm))
  all_goals
    have hi' := hi
    unfold insB insM at hi'
    simp only [Bool.and_eq_true, decide_eq_true_eq] at hi'
    obtain ⟨⟨⟨⟨⟨k0, k1⟩, x0⟩, y0⟩, x1⟩, y1⟩ := hi'
    obtain ⟨n, rfl⟩ : ∃ n : Nat, k = n := ⟨k.toNat, by omega⟩
    rw [Int.toNat_natCast] at x1 y1
    have hb := hix_bd n x y x0 x1 y0 y1
  · exact hilbindex_01 n x y u v _ w (Lib.hid fun w => hkey_no u v w (fun h => by simp [mayB, inB, h.1.1, h.1.2, h.2.1, h.2.2] at hm)) (Lib.hid fun w => by rw [← hm]; exact refmay_any u v w) (Lib.hid fun w => hindex_yes n x y w (by omega) x0 x1 y0 y1) (Lib.hid fun w => by rw [← hi]; exact refinside_any n x y w)
      (Lib.hid fun w => by have := hpoint_yes n (hix n x y) w (by omega) hb.1 hb.2; rw [hp_hix n x y x0 x1 y0 y1] at this; exact this) (Lib.hid fun w => refindex_any n x y w (by omega) x0 x1 y0 y1)
  · exact hilbindex_11 n x y u v _ _ w (Lib.hid fun w => hkey_yes u v w (mayB_x hm) (mayB_y hm)) (Lib.hid fun w => by rw [← hm]; exact refmay_any u v w) (Lib.hid fun w => hindex_yes n x y w (by omega) x0 x1 y0 y1) (Lib.hid fun w => by rw [← hi]; exact refinside_any n x y w) (Lib.hid fun w => refkey_any u v w (mayB_x hm) (mayB_y hm))
      (Lib.hid fun w => by have := hpoint_yes n (hix n x y) w (by omega) hb.1 hb.2; rw [hp_hix n x y x0 x1 y0 y1] at this; exact this) (Lib.hid fun w => refindex_any n x y w (by omega) x0 x1 y0 y1)


namespace hilbIndex
open Go.ChangeShapes Go.WideShapes Go.ChangeAt
theorem spec_is (H : Type) : ∀ ds : List (DataW H), ds.length = 3 → Rows.hilbIndexSpec.fn H ds = { results := [.lit (.bool true)], args := ds }
  | [], h => by cases h
  | [_], h => by cases h
  | [_, _], h => by cases h
  | [_, _, _], _ => rfl
  | _ :: _ :: _ :: _ :: _, h => by simp at h

theorem args_of {args : Array Value} (h : args.size = 3) : ∃ v0 v1 v2, args = #[v0, v1, v2] := by
  refine ⟨args[0], args[1], args[2], ?_⟩
  apply Array.ext
  · simpa using h
  · intro i h1 h2
    match i, h1 with
    | 0, _ => rfl
    | 1, _ => rfl
    | 2, _ => rfl
    | m + 3, hm => exact absurd hm (by omega)

set_option maxRecDepth 100000 in
theorem over : Rows.hilbIndexRow.holds Try.pinned (OpenSpec.ofChange Rows.hilbIndexSpec) :=
  OpenClaim.holds_of_wide 6 Try.f6 rfl rfl rfl rfl rfl rfl rfl ⟨rfl, rfl, rfl, rfl, rfl⟩ rfl rfl rfl rfl rfl (by kernel_rfl) Try.func6 (by kernel_rfl)
    (of_decide_eq_true (by kernel_rfl)) (by unfold Func.isWrapper; first | (rw [if_pos (by decide +kernel)]; kernel_rfl) | (rw [if_neg (by decide +kernel)]; exact ⟨rfl, rfl⟩))
    (fun os started H enc _ => Kit.lifted (C := Try.checked) (tb := 4) (n := 3) (by kernel_rfl) (by kernel_rfl) (by kernel_rfl) Try.func6 rfl (by kernel_rfl) Try.underlying4 (by kernel_rfl)
      (by
        have e : Try.f6.params.toList = [3, 23, 23] := by rw [Try.params6]
        rw [e]
        intro t ht
        simp only [List.mem_cons, List.not_mem_nil, or_false] at ht
        rcases ht with rfl | rfl | rfl <;> exact ⟨by kernel_rfl, of_decide_eq_true (by kernel_rfl)⟩)
      spec_is
      (by
        intro W base args H enc ds p hn hval hA hfz hz
        obtain ⟨v0, v1, v2, rfl⟩ := args_of hn
        rw [Try.params6] at hval
        have k0 := hval 0 3 v0 rfl rfl
        have k1 := hval 1 23 v1 rfl rfl
        have k2 := hval 2 23 v2 rfl rfl
        clear hval
        obtain ⟨k, rfl, _⟩ := Kit.int_of Try.underlying3 k0
        obtain ⟨x, y, rfl, _, _⟩ := Kit.agg2_of Try.underlying23 cPt tPt uInt k1
        obtain ⟨u, v, rfl, _, _⟩ := Kit.agg2_of Try.underlying23 cPt tPt uInt k2
        exact hilbindex_all k x y u v W)
      os started H enc
      (ChangeSpec.witness6 (enc := enc) (C := Try.checked) false ⟨#[], #[.int .i64 0, .agg #[.int .i64 0, .int .i64 0], .agg #[.int .i64 0, .int .i64 0]], []⟩ 8 (by kernel_rfl) (by kernel_rfl) (by kernel_rfl) (by kernel_rfl)))
end hilbIndex

/-- THE STATEMENT. -/
theorem hilbIndex_holds : Rows.HilbIndexSaid := hilbIndex.over
#print axioms hilbIndex_holds

end Go.Proofs.Ytnpilmjpinmgfaa
