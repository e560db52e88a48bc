/-
  PrimCalls returns true for every number of words, every calls and every place, and leaves its arguments as they were; no conditions.
-/
import Derived.Test.YtmgmglfdoffggaaEvC
import Derived.Test.YtmgmglfdoffggaaRows
import Derived.Test.YtmgmglfdoffggaaPrH
namespace Go.Proofs.Ytmgmglfdoffggaa
open Go.Ev
/-- The rows' own measure bounds what is read. -/
theorem bulk_all {H : Type} : ∀ (l : List (DataW H)), l.length ≤ Rows.uptoBulkAll l ∧ ∀ e ∈ l, Rows.uptoBulk e ≤ Rows.uptoBulkAll l
  | [] => ⟨Nat.zero_le _, fun e he => by cases he⟩
  | x :: l => by
    obtain ⟨h1, h2⟩ := bulk_all l
    have h3 : 1 ≤ Rows.uptoBulk x := by
      cases x with
      | lit l => cases l <;> simp [Rows.uptoBulk]
      | _ => simp [Rows.uptoBulk]
    refine ⟨by simp only [Rows.uptoBulkAll, List.length_cons]; omega, fun e he => ?_⟩
    rcases List.mem_cons.1 he with rfl | he
    · simp only [Rows.uptoBulkAll]; omega
    · have := h2 e he; simp only [Rows.uptoBulkAll]; omega
theorem bulk_ok {H : Type} : BulkOk (Rows.uptoBulk (H := H)) where
  str := fun s => by simp [Rows.uptoBulk]
  len := fun es ss => by have := (bulk_all es).1; simp only [Rows.uptoBulk]; omega
  elem := fun es ss e he => by have := (bulk_all es).2 e he; simp only [Rows.uptoBulk]; omega
  part := fun ps p hp => by have := (bulk_all ps).2 p hp; simp only [Rows.uptoBulk]; omega
theorem bulk_small {H : Type} {ds : List (DataW H)} (h : Rows.uptoSmall H ds = true) : ∀ d ∈ ds, Rows.uptoBulk d ≤ 1048576 := fun d hd => by
  have h1 : Rows.uptoBulkAll ds ≤ 1048576 := by simpa [Rows.uptoSmall] using h
  exact Nat.le_trans ((bulk_all ds).2 d hd) h1
end Go.Proofs.Ytmgmglfdoffggaa

namespace Go.Proofs.Ytmgmglfdoffggaa.primCalls
open Go.ChangeShapes Go.WideShapes Go.ChangeAt Go.RowKit Go.Ev
theorem own : ownKnob Try.prog.godebug = none := by kernel_rfl
theorem law {B : Nat} (us : List LV) (h : Args Try.prog B 6 [5, 35, 5] us) : ∃ k h1, evF Try.prog ov23 k 5 us Heap.empty = some (.bool true, h1) := by
  match us, h with
  | [a, b, c], ⟨ha, hb, hc, _⟩ =>
    obtain ⟨x, rfl, hx⟩ := u8_arg ha
    obtain ⟨cs, h1, h2⟩ := bytes_arg hb
    obtain ⟨y, rfl, hy⟩ := u8_arg hc
    obtain ⟨r, h3, ⟨K, hK⟩, rfl⟩ := calls_body x y b cs h1 h2 hx hy
    exact ⟨K, h3, hK K (Nat.le_refl _)⟩
set_option maxRecDepth 100000 in
theorem lifted (os : Os) (started : os.Started) (H : Type) (enc : TypeId × Value → H) :
    ReturnsInHanded {} Try.checked os 5 .any (Rows.primCallsSpec.pre6 enc Try.prog Try.f5 Rows.primCallsRow.domain false) (Rows.primCallsSpec.post enc Try.prog Try.f5 false true false false) := by
  refine returnsInHanded_of_change (C := Try.checked) own started (by kernel_rfl) Try.func5
    (ChangeSpec.witness6 (enc := enc) (C := Try.checked) false ⟨#[], #[.int .u8 0, .slice none 0 0, .int .u8 0], []⟩ 8 (by kernel_rfl) (by kernel_rfl) (by kernel_rfl) (by kernel_rfl)) ?_
  intro W base args ds gs before hval hW _ _
  refine law_step prog_ok ov23_ok Try.func5 rfl (rt := 4) (d := 6) (B := maxLen) bulk_ok (by kernel_rfl) (by kernel_rfl) (by kernel_rfl) rfl rfl Try.underlying4 law hval hW (.inl (Nat.le_refl _)) fun hl => ?_
  obtain ⟨d1, d2, d3, rfl⟩ := list3 hl
  rfl
theorem proved : Rows.PrimCallsSaid :=
  OpenClaim.holds_of_wide 5 Try.f5 rfl rfl rfl rfl rfl rfl rfl ⟨rfl, rfl, rfl, rfl, rfl⟩ rfl rfl rfl rfl rfl (by kernel_rfl) Try.func5 (by kernel_rfl)
    (of_decide_eq_true (by kernel_rfl)) (by unfold Func.isWrapper; first | (rw [if_pos (by decide +kernel)]; kernel_rfl) | (rw [if_neg (by decide +kernel)]; exact ⟨rfl, rfl⟩))
    (fun os started H enc _ => lifted os started H enc)
#print axioms proved
end Go.Proofs.Ytmgmglfdoffggaa.primCalls
