/-
  COMPARISONS OF STRUCTS OF TWO AND OF FOUR NUMBERS, AS THE WALK WRITES THEM. CONDITIONS: none.
-/
import Derived.Test.YtnpilmjpinmgfaaTame
namespace Go.Proofs.Ytnpilmjpinmgfaa.Tame
variable {P : Program} {w : World} {p q r s : Prop} [Decidable p] [Decidable q] [Decidable r] [Decidable s]
theorem calm_eq2 : calmUpon P w (.bool (decide p && decide q)) (if p then (if q then .ok (.value (.bool true)) w else .ok (.value (.bool false)) w) else .ok (.value (.bool false)) w) := by
  by_cases hp : p <;> by_cases hq : q <;> simp [hp, hq, calmUpon]
theorem calm_ne2 : calmUpon P w (.bool (!(decide p && decide q))) (if p then (if q then .ok (.value (.bool false)) w else .ok (.value (.bool true)) w) else .ok (.value (.bool true)) w) := by
  by_cases hp : p <;> by_cases hq : q <;> simp [hp, hq, calmUpon]
theorem calm_eq4 : calmUpon P w (.bool (decide p && decide q && decide r && decide s)) (if p then (if q then (if r then (if s then .ok (.value (.bool true)) w else .ok (.value (.bool false)) w) else .ok (.value (.bool false)) w) else .ok (.value (.bool false)) w) else .ok (.value (.bool false)) w) := by
  by_cases hp : p <;> by_cases hq : q <;> by_cases hr : r <;> by_cases hs : s <;> simp [hp, hq, hr, hs, calmUpon]
end Go.Proofs.Ytnpilmjpinmgfaa.Tame
