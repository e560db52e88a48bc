/-
  No cell of these rows narrows 'for every input' (looked for: loops, veiled, ifaces, maps, wideKeys, modest, calm, conditions, laid).
  DERIVED. THE GIVEN ROWS OF THIS SEAT. 4 by the template 'for every input the law returns true; each argument reads behind the call as it read before'; 0 by the template 'total and deterministic' (their statements: YteoipmlnnlfccaaGreatTotals.lean).
  GIVEN WITH THE SEED: the statements are not yours to turn. If you find one false, say at which input.
  Laid BY PROGRAM, IN A SANDBOX (cutbox-rows.mjs): the forced cells as the released guide's own fill.sh prints them over the translation ced5ac55cc592c38… (all of the seat's roots in one cut). By AI agents, Wed Nov 11 2026. No macro, syntax, notation, axiom, sorry.
-/
import Derived.Test.YteoipmlnnlfccaaGreatChecked
import GoSem.Claim
import GoSem.ClaimJoined
import GoSem.ClaimMapViews
import Derived.JoinedTies
import Derived.KernelRfl
namespace Go.Proofs.YteoipmlnnlfccaaGreat
/- THE CELL 'sum', in the pinned program and in every row, IS THE sha256 OF THE DUMP (.gsa) THAT YteoipmlnnlfccaaGreatProg.lean LOADS. Nothing in Lean hashes anything: it is a label: what it is worth is what the hold of that sum in a sandbox is worth. -/
noncomputable def Tryz.pinned : Pinned := { name := "yteoipmlnnlfccaagreat", sum := "ced5ac55cc592c38ac2e2ef75deb4e2b450a259ab7264f397a0f1d8e0d56b88a", checked := Tryz.checked }
namespace Rows
def none {H : Type} : Left H := { results := [], args := [] }

/-- 'lightshiplaw26.FactoryTells': WHATEVER THE INPUT: true; the input reads as it did. -/
def factoryTellsSpec : ChangeSpec := { name := "factoryTells", fn := fun _ => fun
  | [d] => { results := [.lit (.bool true)], args := [d] }
  | _ => none }
def factoryTellsRow : OpenClaim := { program := "yteoipmlnnlfccaagreat", sum := "ced5ac55cc592c38ac2e2ef75deb4e2b450a259ab7264f397a0f1d8e0d56b88a", func := "lightship/lightshiplaw26.FactoryTells", spec := "factoryTells", inPlace := ["internal/bytealg.MakeNoZero"], unfollowed := true, recurses := true, plainKeys := false, apart := false }
def FactoryTellsSaid : Prop := factoryTellsRow.holds Tryz.pinned (OpenSpec.ofChange factoryTellsSpec)

/-- ITS FALSE NEIGHBOUR: 'it returns false'. Refute it at one input. -/
def factoryTellsWrong : ChangeSpec := { name := "factoryTells", fn := fun _ => fun
  | [d] => { results := [.lit (.bool false)], args := [d] }
  | _ => none }
def FactoryTellsWrongFalsely : Prop := factoryTellsRow.holds Tryz.pinned (OpenSpec.ofChange factoryTellsWrong)

/-- 'lightshiplaw26.FactoryWords': WHATEVER THE INPUT: true; the input reads as it did. -/
def factoryWordsSpec : ChangeSpec := { name := "factoryWords", fn := fun _ => fun
  | [d] => { results := [.lit (.bool true)], args := [d] }
  | _ => none }
def factoryWordsRow : OpenClaim := { program := "yteoipmlnnlfccaagreat", sum := "ced5ac55cc592c38ac2e2ef75deb4e2b450a259ab7264f397a0f1d8e0d56b88a", func := "lightship/lightshiplaw26.FactoryWords", spec := "factoryWords", inPlace := ["internal/bytealg.MakeNoZero"], unfollowed := true, recurses := true, plainKeys := false, apart := false }
def FactoryWordsSaid : Prop := factoryWordsRow.holds Tryz.pinned (OpenSpec.ofChange factoryWordsSpec)

/-- ITS FALSE NEIGHBOUR: 'it returns false'. Refute it at one input. -/
def factoryWordsWrong : ChangeSpec := { name := "factoryWords", fn := fun _ => fun
  | [d] => { results := [.lit (.bool false)], args := [d] }
  | _ => none }
def FactoryWordsWrongFalsely : Prop := factoryWordsRow.holds Tryz.pinned (OpenSpec.ofChange factoryWordsWrong)

/-- 'lightshiplaw26.FactoryTorn': WHATEVER THE INPUT: true; the input reads as it did. -/
def factoryTornSpec : ChangeSpec := { name := "factoryTorn", fn := fun _ => fun
  | [d1, d2] => { results := [.lit (.bool true)], args := [d1, d2] }
  | _ => none }
def factoryTornRow : OpenClaim := { program := "yteoipmlnnlfccaagreat", sum := "ced5ac55cc592c38ac2e2ef75deb4e2b450a259ab7264f397a0f1d8e0d56b88a", func := "lightship/lightshiplaw26.FactoryTorn", spec := "factoryTorn", inPlace := ["internal/bytealg.MakeNoZero"], unfollowed := true, recurses := true, plainKeys := false, apart := false }
def FactoryTornSaid : Prop := factoryTornRow.holds Tryz.pinned (OpenSpec.ofChange factoryTornSpec)

/-- ITS FALSE NEIGHBOUR: 'it returns false'. Refute it at one input. -/
def factoryTornWrong : ChangeSpec := { name := "factoryTorn", fn := fun _ => fun
  | [d1, d2] => { results := [.lit (.bool false)], args := [d1, d2] }
  | _ => none }
def FactoryTornWrongFalsely : Prop := factoryTornRow.holds Tryz.pinned (OpenSpec.ofChange factoryTornWrong)

/-- 'lightshiplaw26.FactoryBoots': WHATEVER THE INPUT: true; the input reads as it did. -/
def factoryBootsSpec : ChangeSpec := { name := "factoryBoots", fn := fun _ => fun
  | [d1, d2] => { results := [.lit (.bool true)], args := [d1, d2] }
  | _ => none }
def factoryBootsRow : OpenClaim := { program := "yteoipmlnnlfccaagreat", sum := "ced5ac55cc592c38ac2e2ef75deb4e2b450a259ab7264f397a0f1d8e0d56b88a", func := "lightship/lightshiplaw26.FactoryBoots", spec := "factoryBoots", inPlace := ["internal/bytealg.MakeNoZero"], unfollowed := true, recurses := true, plainKeys := false, apart := false }
def FactoryBootsSaid : Prop := factoryBootsRow.holds Tryz.pinned (OpenSpec.ofChange factoryBootsSpec)

/-- ITS FALSE NEIGHBOUR: 'it returns false'. Refute it at one input. -/
def factoryBootsWrong : ChangeSpec := { name := "factoryBoots", fn := fun _ => fun
  | [d1, d2] => { results := [.lit (.bool false)], args := [d1, d2] }
  | _ => none }
def FactoryBootsWrongFalsely : Prop := factoryBootsRow.holds Tryz.pinned (OpenSpec.ofChange factoryBootsWrong)

/- THE SECOND FORM. 'bulk': how many values and letters a reading holds, each counted each time it is reached (what is shared counts as often as it is met; a slice's spare places count too). A statement '..UptoSaid' is the law's where the arguments, and the package variables that the reading takes, are together of bulk at most 1048576: NARROWER than '..Said'. Prove '..Said' where nothing that the law and all that it calls make is longer than what came in: it says more and counts as full. Else prove '..UptoSaid'. A law counts once. -/
mutual
def uptoBulk {H : Type} : DataW H → Nat
  | .lit (.string bytes) => bytes.length + 1
  | .lit _ => 1
  | .nil => 1
  | .ptr d => uptoBulk d + 1
  | .slice elems spare => uptoBulkAll elems + uptoBulkAll spare + 1
  | .agg parts => uptoBulkAll parts + 1
  | .iface _ d => uptoBulk d + 1
  | .map entries => uptoBulkEntries entries + 1
  | .held _ => 1
def uptoBulkAll {H : Type} : List (DataW H) → Nat
  | [] => 0
  | d :: r => uptoBulk d + uptoBulkAll r
def uptoBulkEntries {H : Type} : List (Lit × DataW H) → Nat
  | [] => 0
  | x :: r => uptoBulkEntry x + uptoBulkEntries r
def uptoBulkEntry {H : Type} : Lit × DataW H → Nat
  | (.string bytes, d) => bytes.length + uptoBulk d + 1
  | (_, d) => uptoBulk d + 1
 end
def uptoSmall : (H : Type) → List (DataW H) → Bool := fun _ ds => decide (uptoBulkAll ds ≤ 1048576)
def OpenSpec.upto (s : _root_.Go.ChangeSpec) : _root_.Go.OpenSpec := { _root_.Go.OpenSpec.ofChange s with cond := some uptoSmall }

/-- 'lightshiplaw26.FactoryTells', WHERE WHAT IT READS IS OF BULK AT MOST 1048576: true; the input reads as it did. -/
def factoryTellsUptoRow : OpenClaim := { program := "yteoipmlnnlfccaagreat", sum := "ced5ac55cc592c38ac2e2ef75deb4e2b450a259ab7264f397a0f1d8e0d56b88a", func := "lightship/lightshiplaw26.FactoryTells", spec := "factoryTells", inPlace := ["internal/bytealg.MakeNoZero"], unfollowed := true, recurses := true, plainKeys := false, apart := false, narrowed := true }
def FactoryTellsUptoSaid : Prop := factoryTellsUptoRow.holds Tryz.pinned (OpenSpec.upto factoryTellsSpec)

/-- 'lightshiplaw26.FactoryWords', WHERE WHAT IT READS IS OF BULK AT MOST 1048576: true; the input reads as it did. -/
def factoryWordsUptoRow : OpenClaim := { program := "yteoipmlnnlfccaagreat", sum := "ced5ac55cc592c38ac2e2ef75deb4e2b450a259ab7264f397a0f1d8e0d56b88a", func := "lightship/lightshiplaw26.FactoryWords", spec := "factoryWords", inPlace := ["internal/bytealg.MakeNoZero"], unfollowed := true, recurses := true, plainKeys := false, apart := false, narrowed := true }
def FactoryWordsUptoSaid : Prop := factoryWordsUptoRow.holds Tryz.pinned (OpenSpec.upto factoryWordsSpec)

/-- 'lightshiplaw26.FactoryTorn', WHERE WHAT IT READS IS OF BULK AT MOST 1048576: true; the input reads as it did. -/
def factoryTornUptoRow : OpenClaim := { program := "yteoipmlnnlfccaagreat", sum := "ced5ac55cc592c38ac2e2ef75deb4e2b450a259ab7264f397a0f1d8e0d56b88a", func := "lightship/lightshiplaw26.FactoryTorn", spec := "factoryTorn", inPlace := ["internal/bytealg.MakeNoZero"], unfollowed := true, recurses := true, plainKeys := false, apart := false, narrowed := true }
def FactoryTornUptoSaid : Prop := factoryTornUptoRow.holds Tryz.pinned (OpenSpec.upto factoryTornSpec)

/-- 'lightshiplaw26.FactoryBoots', WHERE WHAT IT READS IS OF BULK AT MOST 1048576: true; the input reads as it did. -/
def factoryBootsUptoRow : OpenClaim := { program := "yteoipmlnnlfccaagreat", sum := "ced5ac55cc592c38ac2e2ef75deb4e2b450a259ab7264f397a0f1d8e0d56b88a", func := "lightship/lightshiplaw26.FactoryBoots", spec := "factoryBoots", inPlace := ["internal/bytealg.MakeNoZero"], unfollowed := true, recurses := true, plainKeys := false, apart := false, narrowed := true }
def FactoryBootsUptoSaid : Prop := factoryBootsUptoRow.holds Tryz.pinned (OpenSpec.upto factoryBootsSpec)

end Rows
end Go.Proofs.YteoipmlnnlfccaaGreat
