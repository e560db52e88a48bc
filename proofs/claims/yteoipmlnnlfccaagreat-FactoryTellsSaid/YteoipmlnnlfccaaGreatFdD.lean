/-
  The closed runs of FactoryTells; no conditions.
-/
import Derived.Test.YteoipmlnnlfccaaGreatFdC
namespace Go.Ev
noncomputable section
open Go.Proofs
set_option linter.unusedSimpArgs false
set_option linter.unusedVariables false
set_option maxRecDepth 1000000
/-! ## FactoryTells: the runs -/
noncomputable def tellsC : Code := bodyOf Tryz.prog 3
noncomputable def tellsPre (w : Nat) : CRes := fvs Tryz.prog fw27 20000 44 (takeS 4 tellsC).1 (ofArgs [.int .u8 (.ofNat w)] 0 .nil) FH.empty
def resTm (r : CRes) : T LV := CRes.rec (motive := fun _ => T LV) (fun _ tm _ => tm) .nil r
def resFH (r : CRes) : FH := CRes.rec (motive := fun _ => FH) (fun _ _ h => h) .empty r
def isNorm (r : CRes) : Bool := CRes.rec (motive := fun _ => Bool) (fun e _ _ => lexF e true (fun _ => false) false) false r
theorem isNorm_ok {r : CRes} (h : isNorm r = true) : r = .ok .normal (resTm r) (resFH r) := by
  cases r with
  | no => cases h
  | ok e tm fh => cases e <;> first | rfl | cases h
def genIs (h : FH) (b g n : Nat) : Bool := fRow h b (fun _ len gen _ => andF (Nat.beq gen g) (Nat.blt n len)) false
def chkAt (h : FH) (i : Nat) : Bool := optF (cellF h 232 101 (Nat.add (Nat.mul i 3) 2)) (fun v => onSl v (fun b g o n _ es =>
    andF (Nat.beq g 0) (andF (Nat.beq o 0) (andF (Nat.beq es 1) (andF (Nat.blt 0 n) (andF (Nat.blt b 748) (andF (genIs h b 0 0) (optF (cellF h b 0 0) (fun c => onInt c (fun k x => Int.rec (motive := fun _ => Bool) (fun _ => Nat.beq (ikF k) (ikF .u32)) (fun _ => false) x) false) false)))))))
    (fun _ _ => false) false false) false
def allUpTo (f : Nat → Bool) (n : Nat) : Bool := Nat.rec (motive := fun _ => Bool) true (fun i ih => Bool.rec (motive := fun _ => Bool) false ih (f i)) n
theorem allUpTo_ok {f : Nat → Bool} : ∀ {n : Nat}, allUpTo f n = true → ∀ i, i < n → f i = true
  | 0, _, i, hi => by omega
  | n + 1, h, i, hi => by
    have h' : Bool.rec (motive := fun _ => Bool) false (allUpTo f n) (f n) = true := h
    cases hf : f n with
    | false => rw [hf] at h'; cases h'
    | true =>
      rw [hf] at h'
      by_cases e : i = n
      · subst e; exact hf
      · exact allUpTo_ok (n := n) h' i (by omega)
def tellsShow (r : CRes) : LV × LV × Bool × Bool × Bool := (gvF (path 0) (resTm r), gvF (path 3) (resTm r), isNorm r, genIs (resFH r) 232 101 308, allUpTo (chkAt (resFH r)) 103)
theorem tells_pre (w : Nat) : tellsShow (tellsPre w) = (.int .u8 (.ofNat w), .slice 232 101 0 103 none 3, true, true, true) := by kernel_rfl
def tellsEnd (r : CRes) : Bool := CRes.rec (motive := fun _ => Bool) (fun e tm _ => lexF e false (fun _ => false) (onBool (gvF (path 2) tm) (fun b => b) false)) false r
theorem tellsEnd_ok {r : CRes} (h : tellsEnd r = true) : r = .ok .ret (resTm r) (resFH r) ∧ gvF (path 2) (resTm r) = .bool true := by
  cases r with
  | no => cases h
  | ok e tm fh =>
    cases e with
    | normal => cases h
    | exit _ => cases h
    | ret =>
      refine ⟨rfl, ?_⟩
      have h' : onBool (gvF (path 2) tm) (fun b => b) false = true := h
      show gvF (path 2) tm = _
      unfold onBool at h'
      split at h'
      · rename_i b hq; subst h'; exact hq
      · cases h'
def tellsTm (w : Nat) (a20 a21 a22 a23 a24 a25 a26 a5 a27 a28 a29 a30 a31 a32 a33 a34 a35 a36 a37 : LV) : T LV :=
  (((((((((((((((((((resTm (tellsPre w)).set 20 a20).set 21 a21).set 22 a22).set 23 a23).set 24 a24).set 25 a25).set 26 a26).set 5 a5).set 27 a27).set 28 a28).set 29 a29).set 30 a30).set 31 a31).set 32 a32).set 33 a33).set 34 a34).set 35 a35).set 36 a36).set 37 a37
noncomputable def tellsSuf (w : Nat) (tm : T LV) : CRes := fv Tryz.prog fw27 20000 44 (comp Tryz.prog 44 (takeS 7 tellsC).2) tm ⟨keepF (resFH (tellsPre w)) 748 500, (resFH (tellsPre w)).next⟩
theorem tells_suf (w : Nat) (a20 a21 a22 a23 a24 a25 a26 a5 a27 a28 a29 a30 a31 a32 a33 a34 a35 a36 a37 : LV) :
    tellsEnd (tellsSuf w (tellsTm w a20 a21 a22 a23 a24 a25 a26 a5 a27 a28 a29 a30 a31 a32 a33 a34 a35 a36 a37)) = true := by kernel_rfl
end
end Go.Ev
