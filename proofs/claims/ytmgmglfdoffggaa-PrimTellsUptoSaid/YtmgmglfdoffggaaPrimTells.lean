/-
  PrimTells returns true for every number, name, code, words and place, and leaves its arguments as they were; condition: what it reads is of bulk at most 1048576.
-/
import Derived.Test.YtmgmglfdoffggaaEvC
import Derived.Test.YtmgmglfdoffggaaRows
import Derived.Test.YtmgmglfdoffggaaPrK
import Derived.JoinedCond
namespace Go.Proofs.Ytmgmglfdoffggaa
open Go.Ev
/-- The rows' own measure bounds what is read. -/
theorem bulk_all {H : Type} : ∀ (l : List (DataW H)), l.length ≤ Rows.uptoBulkAll l ∧ ∀ e ∈ l, Rows.uptoBulk e ≤ Rows.uptoBulkAll l
  | [] => ⟨Nat.zero_le _, fun e he => by cases he⟩
  | x :: l => by
    obtain ⟨h1, h2⟩ := bulk_all l
    have h3 : 1 ≤ Rows.uptoBulk x := by
      cases x with
      | lit l => cases l <;> simp [Rows.uptoBulk]
      | _ => simp [Rows.uptoBulk]
    refine ⟨by simp only [Rows.uptoBulkAll, List.length_cons]; omega, fun e he => ?_⟩
    rcases List.mem_cons.1 he with rfl | he
    · simp only [Rows.uptoBulkAll]; omega
    · have := h2 e he; simp only [Rows.uptoBulkAll]; omega
theorem bulk_ok {H : Type} : BulkOk (Rows.uptoBulk (H := H)) where
  str := fun s => by simp [Rows.uptoBulk]
  len := fun es ss => by have := (bulk_all es).1; simp only [Rows.uptoBulk]; omega
  elem := fun es ss e he => by have := (bulk_all es).2 e he; simp only [Rows.uptoBulk]; omega
  part := fun ps p hp => by have := (bulk_all ps).2 p hp; simp only [Rows.uptoBulk]; omega
theorem bulk_small {H : Type} {ds : List (DataW H)} (h : Rows.uptoSmall H ds = true) : ∀ d ∈ ds, Rows.uptoBulk d ≤ 1048576 := fun d hd => by
  have h1 : Rows.uptoBulkAll ds ≤ 1048576 := by simpa [Rows.uptoSmall] using h
  exact Nat.le_trans ((bulk_all ds).2 d hd) h1
end Go.Proofs.Ytmgmglfdoffggaa

namespace Go.Proofs.Ytmgmglfdoffggaa.primTells
open Go.ChangeShapes Go.WideShapes Go.ChangeAt Go.RowKit Go.Ev
theorem own : ownKnob Try.prog.godebug = none := by kernel_rfl
set_option maxRecDepth 100000 in
theorem lifted (os : Os) (started : os.Started) (H : Type) (enc : TypeId × Value → H) (F : Stop.Interp) :
    ReturnsInHanded {} Try.checked os 6 .any ((Rows.OpenSpec.upto Rows.primTellsSpec).pre6 enc Try.prog Try.f6 Rows.primTellsUptoRow.domain false) (((Rows.OpenSpec.upto Rows.primTellsSpec).at F).post enc Try.prog Try.f6 false true false false) := by
  refine returnsInHanded_of_cond (C := Try.checked) (s := Rows.OpenSpec.upto Rows.primTellsSpec) (k := Rows.uptoSmall) rfl own started (by kernel_rfl) Try.func6
    (OpenSpec.witness (enc := enc) (C := Try.checked) (s := Rows.OpenSpec.upto Rows.primTellsSpec) (k := Rows.uptoSmall) rfl false ⟨#[], #[.int .u32 0, .string ⟨#[]⟩, .slice none 0 0, .slice none 0 0, .int .i64 0], []⟩ 8 (by kernel_rfl) (by kernel_rfl) (by kernel_rfl)
      (x := ([.lit (.int .u32 0), .lit (.string []), .nil, .nil, .lit (.int .i64 0)], [], [])) (by kernel_rfl) rfl (by kernel_rfl)) ?_
  intro W base args ds gs before hval hW _ hk _
  obtain ⟨p, q, _, hV, _⟩ := id hW
  obtain ⟨rfl, rfl⟩ := trodVars_none hV
  rw [List.append_nil] at hk
  refine law_step prog_ok ov33_ok Try.func6 rfl (rt := 4) (d := 6) (B := 1048576) bulk_ok (by kernel_rfl) (by kernel_rfl) (by kernel_rfl) rfl rfl Try.underlying4 (law_tells (Nat.le_refl _)) hval hW (.inr (bulk_small hk)) fun hl => ?_
  obtain ⟨d1, d2, d3, d4, d5, rfl⟩ := list5 hl
  rfl
theorem proved : Rows.PrimTellsUptoSaid :=
  OpenClaim.holds_of_cond 6 Try.f6 rfl rfl rfl rfl rfl rfl rfl ⟨rfl, rfl, rfl, rfl, rfl⟩ rfl rfl rfl rfl rfl (by kernel_rfl) Try.func6 (by kernel_rfl)
    (of_decide_eq_true (by kernel_rfl)) (by unfold Func.isWrapper; first | (rw [if_pos (by decide +kernel)]; kernel_rfl) | (rw [if_neg (by decide +kernel)]; exact ⟨rfl, rfl⟩))
    (fun os started H enc _ F => lifted os started H enc F)
#print axioms proved
end Go.Proofs.Ytmgmglfdoffggaa.primTells
