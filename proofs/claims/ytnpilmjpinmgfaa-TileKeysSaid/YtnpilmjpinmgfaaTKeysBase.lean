/-
  KEYS THAT ARE RIGHT, AND WHAT THE LAW OF KEYS READS. CONDITIONS: none.
-/
import Derived.Test.YtnpilmjpinmgfaaTLaw0
import Derived.Test.YtnpilmjpinmgfaaKit
import Derived.Lib.Hide
namespace Go.Proofs.Ytnpilmjpinmgfaa
open Go.RowKit Go.Proofs.Ytnpilmjpinmgfaa.Tame
set_option maxHeartbeats 400000

/-- Is the beginning of a key right? -/
def rightK (s : ByteArray) (k : Nat) : Bool := decide (s.size ≤ 29) && (s.data.toList.take k).all goodB
theorem rightK_snoc (s : ByteArray) (k : Nat) (h : k < s.size) : rightK s (k + 1) = (rightK s k && (decide (48 ≤ s[k].toNat) && decide (s[k].toNat ≤ 51))) := by
  unfold rightK
  rw [take_snoc s k h, List.all_append, Bool.and_assoc]
  simp [goodB]
def rightB (s : ByteArray) : Bool := rightK s s.size
theorem rightB_yes {s : ByteArray} (h : rightB s = true) : s.size ≤ 29 ∧ s.data.toList.all goodB = true := by
  unfold rightB rightK at h
  rw [List.take_of_length_le (by simp)] at h
  simpa using h
theorem rightB_no {s : ByteArray} (h : rightB s = false) : ¬ (s.size ≤ 29 ∧ s.data.toList.all goodB = true) := by
  intro hh
  have h' : rightB s = true := by
    unfold rightB rightK
    rw [List.take_of_length_le (by simp), hh.2, Bool.and_true]
    exact decide_eq_true hh.1
  exact Bool.noConfusion (h.symm.trans h')
/-- What is parsed: three numbers, and the error. -/
structure Parsed (s : ByteArray) (a b c f : Int) : Prop where
  val : parseV s = .tuple #[.agg #[.int .i64 a, .int .i64 b, .int .i64 c], .int .i64 f]
  yes : rightB s = true → f = 0 ∧ tilB a b c = true ∧ KB a b c = s
  no : rightB s = false → f = 2 ∧ a = 0 ∧ b = 0 ∧ c = 0
theorem parsed (s : ByteArray) : ∃ a b c f, Parsed s a b c f := by
  cases h : rightB s
  · exact ⟨0, 0, 0, 2, if_neg (rightB_no h), fun h' => (Bool.noConfusion (h.symm.trans h')), fun _ => ⟨rfl, rfl, rfl, rfl⟩⟩
  · have hr := rightB_yes h
    have hk := right_key s hr.1 hr.2
    exact ⟨_, _, _, _, if_pos hr, fun _ => ⟨rfl, hk.1, hk.2⟩, fun h' => (Bool.noConfusion (h.symm.trans h'))⟩

theorem own_block {w : World} {base g n cap : Nat} {e : TypeId} {size : Nat} {xs : List Value} (h : w.ownsRow base e size (.slice (some ⟨g, 0, none⟩) n cap) n xs) :
    ∃ cur : Array Value, w.heap[g]? = some (.cells cur e (0, 0)) ∧ n ≤ cap ∧ ∀ (j : Nat) (v : Value), xs[j]? = some v → cur[j]? = some v := by
  rcases h.2 with ⟨h1, _⟩ | ⟨g', cap', cur, h1, h2, h3, h4, h5, h6, h7⟩
  · simp at h1
  · simp only [Value.slice.injEq, Option.some.injEq] at h1
    obtain ⟨h1, _, rfl⟩ := h1
    obtain rfl : g = g' := by simpa using congrArg Addr.block h1
    refine ⟨cur, h3, h4, fun j v hv => ?_⟩
    rw [← h7, List.getElem?_take] at hv
    split at hv
    · simpa using hv
    · cases hv
end Go.Proofs.Ytnpilmjpinmgfaa
