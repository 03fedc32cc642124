/-
  THE LINES' AWAKE. CONDITIONS: none.
-/
import Derived.Test.YtcpjgcpclekjkaaOri2
namespace Go.Proofs.Ytcpjgcpclekjkaa
open Go.RowKit Go.Proofs.Ytcpjgcpclekjkaa.Tame
set_option maxHeartbeats 400000


theorem awake8_any (w : World) : Calls Try.prog 34 #[] w fun e w' => e = .returned (.bool true) ∧ Below w.heap.size w w' := by
  go_enter Try.func34, Try.ntmps34
  go_upto_region 1 with (fail)
  refine plain_hid (fun W hW ops hops => ?_)
  have hb : Below w.heap.size w W := by rw [hW]; exact Below.refl _ _
  have hz : w.heap.size + 0 ≤ W.heap.size := by rw [hW]; exact Nat.le_refl _
  clear hW hops
  repeat (refine walkT_step (fun K hK => ?_); go_simp; first | (refine hK _ _ ?_; clear hK K))
  refine walkT_step (fun K hK => ?_)
  go_simp
  refine ⟨_, fun _ => rfl, fun k1 hk1 nk1 => hK _ _ ?_⟩; clear hK K
  clear nk1
  refine walkT_fill (k := k1) (ob := #[.int .i64 0, .int .i64 0, .int .i64 0, .int .i64 0]) (t := 34) (v := .agg #[.int .i64 0, .int .i64 0, .int .i64 2, .int .i64 2]) rfl rfl rfl rfl (Gh.set_same _ _ _) rfl (by kernel_rfl) rfl rfl ?_
  refine walkT_nil ?_
  intro w1 hc
  have g0 : w1.heap[k1]? = some (.cells #[.int .i64 0, .int .i64 0, .int .i64 2, .int .i64 2] 34) := (hc.own (k1) _ true (Gh.set_same _ _ _)).2
  replace hb := hb.trans (hc.below.mono hb.size)
  replace hk1 := Nat.le_trans hz hk1
  replace hz := Nat.le_trans hz hc.kept.size
  clear hc  W
  go_upto_region 2 with (fail)
  refine plain_hid (fun W hW ops hops => ?_)
  subst hW
  clear hops
  have f0 : ∀ x : Later W [], x.w.cell? ⟨k1, 0, none⟩ = some (.int .i64 0) := fun x => cell_of_block (Later.at0 g0 x) rfl
  have f1 : ∀ x : Later W [], x.w.cell? ⟨k1, 1, none⟩ = some (.int .i64 0) := fun x => cell_of_block (Later.at0 g0 x) rfl
  have f2 : ∀ x : Later W [], x.w.cell? ⟨k1, 2, none⟩ = some (.int .i64 2) := fun x => cell_of_block (Later.at0 g0 x) rfl
  have f3 : ∀ x : Later W [], x.w.cell? ⟨k1, 3, none⟩ = some (.int .i64 2) := fun x => cell_of_block (Later.at0 g0 x) rfl
  repeat (refine walkT_step (fun K hK => ?_); go_simp; first | (refine hK _ _ ?_; clear hK K))
  refine walkT_step (fun K hK => ?_)
  go_simp
  refine ⟨_, fun _ => rfl, fun k2 hk2 nk2 => hK _ _ ?_⟩; clear hK K
  clear nk2
  refine walkT_fill (k := k2) (ob := #[.int .i64 0, .int .i64 0, .int .i64 0, .int .i64 0]) (t := 34) (v := .agg #[.int .i64 0, .int .i64 2, .int .i64 2, .int .i64 0]) rfl rfl rfl rfl (Gh.set_same _ _ _) rfl (by kernel_rfl) rfl rfl ?_
  refine walkT_nil ?_
  intro w1 hc
  replace g0 := hc.at0 g0
  have g1 : w1.heap[k2]? = some (.cells #[.int .i64 0, .int .i64 2, .int .i64 2, .int .i64 0] 34) := (hc.own (k2) _ true (Gh.set_same _ _ _)).2
  replace hb := hb.trans (hc.below.mono hb.size)
  replace hk2 := Nat.le_trans hz hk2
  replace hz := Nat.le_trans hz hc.kept.size
  clear hc f0 f1 f2 f3 W
  have c1 : insideB 0 0 2 2 1 1 = true := by decide
  have c2 : touchB 0 0 2 2 0 2 2 0 = true := by decide
  have c3 : cmpI (crossI 0 0 2 2 0 2) 0 = 1 := by decide
  have c4 : orderI 0 0 2 2 0 0 2 2 = -1 := by decide
  go_upto_region 3 with (fail)
  refine plain_hid (fun W hW ops hops => ?_)
  subst hW
  have o3 : (ops[3]?).bind (fun x => x.dst) = some 11 := by rw [hops]; rfl
  have o8 : (ops[8]?).bind (fun x => x.dst) = some 16 := by rw [hops]; rfl
  have o18 : (ops[18]?).bind (fun x => x.dst) = some 26 := by rw [hops]; rfl
  clear hops
  have f4 : ∀ x : Later W [], x.w.cell? ⟨k1, 0, none⟩ = some (.int .i64 0) := fun x => cell_of_block (Later.at0 g0 x) rfl
  have f5 : ∀ x : Later W [], x.w.cell? ⟨k1, 1, none⟩ = some (.int .i64 0) := fun x => cell_of_block (Later.at0 g0 x) rfl
  have f6 : ∀ x : Later W [], x.w.cell? ⟨k1, 2, none⟩ = some (.int .i64 2) := fun x => cell_of_block (Later.at0 g0 x) rfl
  have f7 : ∀ x : Later W [], x.w.cell? ⟨k1, 3, none⟩ = some (.int .i64 2) := fun x => cell_of_block (Later.at0 g0 x) rfl
  have f8 : ∀ x : Later W [], x.w.cell? ⟨k2, 0, none⟩ = some (.int .i64 0) := fun x => cell_of_block (Later.at0 g1 x) rfl
  have f9 : ∀ x : Later W [], x.w.cell? ⟨k2, 1, none⟩ = some (.int .i64 2) := fun x => cell_of_block (Later.at0 g1 x) rfl
  have f10 : ∀ x : Later W [], x.w.cell? ⟨k2, 2, none⟩ = some (.int .i64 2) := fun x => cell_of_block (Later.at0 g1 x) rfl
  have f11 : ∀ x : Later W [], x.w.cell? ⟨k2, 3, none⟩ = some (.int .i64 0) := fun x => cell_of_block (Later.at0 g1 x) rfl
  repeat (refine walkT_step (fun K hK => ?_); go_simp; first | (refine hK _ _ ?_; clear hK K) | (refine ⟨_, fun x => inside_any _ _ _ _ _ _ _, ?_⟩; refine hK _ _ ?_; clear hK K) | (refine ⟨_, fun x => touch_any _ _ _ _ _ _ _ _ _, ?_⟩; refine hK _ _ ?_; clear hK K) | (refine ⟨_, fun x => side_any _ _ _ _ _ _ _, ?_⟩; refine hK _ _ ?_; clear hK K) | (refine ⟨_, fun x => order_any _ _ _ _ _ _ _ _ _, ?_⟩; refine hK _ _ ?_; clear hK K))
  refine walkT_nil ?_
  intro w2 hc
  replace g0 := hc.at0 g0
  replace g1 := hc.at0 g1
  replace hb := hb.trans (hc.below.mono hb.size)
  replace hz := Nat.le_trans hz hc.kept.size
  clear hc o3 o8 o18 f4 f5 f6 f7 f8 f9 f10 f11 W
  go_wp2
  go_ret
  exact ⟨rfl, hb⟩

end Go.Proofs.Ytcpjgcpclekjkaa
