/-
  The image's bytes of the package factory, by a closed run; no conditions.
-/
import Derived.Test.YteoipmlnnlfccaaGreatFdO
namespace Go.Ev
noncomputable section
open Go.Proofs
set_option linter.unusedSimpArgs false
set_option linter.unusedVariables false
set_option maxRecDepth 1000000
def imgB : List Nat := imageB firstW
def fBytes : Pure
  | [] => some (some (.row (u8s imgB) 102 28), fun id => .slice id 102 0 3044 none 1)
  | _ => none
theorem img_bare : (u8s imgB).all (bareV 10) = true := by kernel_rfl
theorem bytes_ok : PureOk Tryz.prog ov23 10 fBytes := fun vs p hp => by
  cases vs with
  | nil => cases hp; exact pure_row (k := 20000) (b := 763) fw23_ok img_bare (by kernel_rfl)
  | cons _ _ => cases hp
def ov24 : Ov := ov23.with 10 fBytes
theorem ov24_ok : OvOk Tryz.prog ov24 := Ov.with_ok prog_ok ov23_ok bytes_ok
def fw24 : FOv := fw23.with 10 (pureCallF fBytes)
theorem fw24_ok : OvR fw24 ov24 := fw23_ok.pure _ _
end
end Go.Ev
