/-
  PrimStarts returns true for every two codes and every place of a cut, and leaves its arguments as they were; no conditions.
-/
import Derived.Test.YtmgmglfdoffggaaPrD
import Derived.Test.YtmgmglfdoffggaaEvC
import Derived.Test.YtmgmglfdoffggaaRows
namespace Go.Proofs.Ytmgmglfdoffggaa.primStarts
open Go.ChangeShapes Go.WideShapes Go.ChangeAt Go.RowKit Go.Ev
theorem own : ownKnob Try.prog.godebug = none := by kernel_rfl
set_option maxRecDepth 100000 in
theorem lifted (os : Os) (started : os.Started) (H : Type) (enc : TypeId × Value → H) :
    ReturnsInHanded {} Try.checked os 3 .any (Rows.primStartsSpec.pre6 enc Try.prog Try.f3 Rows.primStartsRow.domain false) (Rows.primStartsSpec.post enc Try.prog Try.f3 false true false false) := by
  refine returnsInHanded_of_change (C := Try.checked) own started (by kernel_rfl) Try.func3
    (ChangeSpec.witness6 (enc := enc) (C := Try.checked) false ⟨#[], #[.slice none 0 0, .slice none 0 0, .int .u8 0], []⟩ 8 (by kernel_rfl) (by kernel_rfl) (by kernel_rfl) (by kernel_rfl)) ?_
  intro W base args ds gs before hval hW _ _
  refine law_step prog_ok ov21_ok Try.func3 rfl (rt := 4) (d := 6) (by kernel_rfl) (by kernel_rfl) (by kernel_rfl) rfl rfl Try.underlying4 law_starts hval hW fun hl => ?_
  obtain ⟨d1, d2, d3, rfl⟩ := list3 hl
  rfl
theorem proved : Rows.PrimStartsSaid :=
  OpenClaim.holds_of_wide 3 Try.f3 rfl rfl rfl rfl rfl rfl rfl ⟨rfl, rfl, rfl, rfl, rfl⟩ rfl rfl rfl rfl rfl (by kernel_rfl) Try.func3 (by kernel_rfl)
    (of_decide_eq_true (by kernel_rfl)) (by unfold Func.isWrapper; first | (rw [if_pos (by decide +kernel)]; kernel_rfl) | (rw [if_neg (by decide +kernel)]; exact ⟨rfl, rfl⟩))
    (fun os started H enc _ => lifted os started H enc)
#print axioms proved
end Go.Proofs.Ytmgmglfdoffggaa.primStarts
