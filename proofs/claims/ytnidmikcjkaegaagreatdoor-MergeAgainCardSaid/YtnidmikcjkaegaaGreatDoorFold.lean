/-
  What is proved here: contracts of the parts of keys.Fold. Conditions: the strings' lengths are bounded.
-/
import Derived.Test.YtnidmikcjkaegaaGreatDoorEnc
import Derived.Test.YtnidmikcjkaegaaGreatDoorMap
import Derived.Test.YtnidmikcjkaegaaGreatDoorStr
import Derived.Outline
import Derived.Deep.QuietTactic
import Derived.BigQuiet
namespace Go.Proofs.YtnidmikcjkaegaaGreatDoor
open Go Go.RowKit Go.ML

def btw (c f t : Int) : Bool := decide (f ≤ c ∧ c ≤ t)

theorem between_spec (c f t : Int) (w : World) : Calls Tryz.prog 111 #[.int .i32 c, .int .i32 f, .int .i32 t] w fun e w' => e = .returned (.bool (btw c f t)) ∧ w = w' := by
  go_enter Tryz.func111, Tryz.ntmps111
  go_wp2
  all_goals go_ret
  all_goals exact ⟨by simp [btw, *] <;> omega, rfl⟩

theorem zeroStr (w : World) : (zeroValue 9).run Tryz.prog w = .ok (.string ⟨#[]⟩) w := by kernel_rfl

end Go.Proofs.YtnidmikcjkaegaaGreatDoor
