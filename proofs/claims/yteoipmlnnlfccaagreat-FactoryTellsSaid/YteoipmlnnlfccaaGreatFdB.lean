/-
  The document's bytes of the first words, and that these words are like themselves, by closed runs; no conditions.
-/
import Derived.Test.YteoipmlnnlfccaaGreatFdA
namespace Go.Ev
noncomputable section
open Go.Proofs
set_option linter.unusedSimpArgs false
set_option linter.unusedVariables false
set_option maxRecDepth 1000000
def fLawB : Pure
  | [v] => match lvEq 10 v firstV with
    | true => some (some (.row (u8s imgB) 102 28), fun id => .slice id 102 0 3044 none 1)
    | false => none
  | _ => none
theorem lawB_ok : PureOk Tryz.prog ov24 11 fLawB := fun vs p hp => by
  unfold fLawB at hp
  split at hp
  · split at hp
    · rename_i v h
      cases hp
      have := lvEq_eq _ _ _ h
      subst this
      exact pure_row (k := 20000) (b := 11) fw24_ok img_bare (by kernel_rfl)
    · cases hp
  · cases hp
def ov25 : Ov := ov24.with 11 fLawB
theorem ov25_ok : OvOk Tryz.prog ov25 := Ov.with_ok prog_ok ov24_ok lawB_ok
def fw25 : FOv := fw24.with 11 (pureCallF fLawB)
theorem fw25_ok : OvR fw25 ov25 := fw24_ok.pure _ _
def fAllW : Pure
  | [a, b] => match lvEq 10 a firstV && lvEq 10 b firstV with
    | true => some (none, fun _ => .bool true)
    | false => none
  | _ => none
theorem allW_ok : PureOk Tryz.prog ov25 9 fAllW := fun vs p hp => by
  unfold fAllW at hp
  split at hp
  · split at hp
    · rename_i a b h
      cases hp
      rw [Bool.and_eq_true] at h
      have h1 := lvEq_eq _ _ _ h.1
      have h2 := lvEq_eq _ _ _ h.2
      subst h1; subst h2
      exact pure_val (k := 20000) fw25_ok rfl (by kernel_rfl)
    · cases hp
  · cases hp
def ov26 : Ov := ov25.with 9 fAllW
theorem ov26_ok : OvOk Tryz.prog ov26 := Ov.with_ok prog_ok ov25_ok allW_ok
def fw26 : FOv := fw25.with 9 (pureCallF fAllW)
theorem fw26_ok : OvR fw26 ov26 := fw25_ok.pure _ _
end
end Go.Ev
