/-
  The chapter's examples, by a closed run; no conditions.
-/
import Derived.Test.YteoipmlnnlfccaaGreatFdB
namespace Go.Ev
noncomputable section
open Go.Proofs
set_option linter.unusedSimpArgs false
set_option linter.unusedVariables false
set_option maxRecDepth 1000000
def fAwake : Pure
  | [] => some (none, fun _ => .bool true)
  | _ => none
theorem awake_ok : PureOk Tryz.prog ov26 12 fAwake := fun vs p hp => by
  cases vs with
  | nil => cases hp; exact pure_val (k := 20000) fw26_ok rfl (by kernel_rfl)
  | cons _ _ => cases hp
def ov27 : Ov := ov26.with 12 fAwake
theorem ov27_ok : OvOk Tryz.prog ov27 := Ov.with_ok prog_ok ov26_ok awake_ok
def fw27 : FOv := fw26.with 12 (pureCallF fAwake)
theorem fw27_ok : OvR fw27 ov27 := fw26_ok.pure _ _
end
end Go.Ev
