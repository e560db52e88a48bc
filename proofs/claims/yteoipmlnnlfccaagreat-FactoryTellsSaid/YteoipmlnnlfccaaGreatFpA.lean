/-
  What the functions of the package prim compute, by the evaluator; no conditions.
-/
import Derived.Test.YteoipmlnnlfccaaGreatFaA
import Derived.Test.YteoipmlnnlfccaaGreatEvC
namespace Go.Ev
noncomputable section
open Go.Proofs
set_option linter.unusedSimpArgs false
set_option linter.unusedVariables false
def ov1 : Ov := fo5
theorem ov1_ok : OvOk Tryz.prog ov1 := fo5_ok
theorem call1_27 (run : Run) (h : Heap) : callE Tryz.prog ov1 run 43 [] h = some (.agg tabCells, h) := rfl
end
end Go.Ev

namespace Go.Ev
noncomputable section
open Go.Proofs
set_option linter.unusedSimpArgs false
set_option linter.unusedVariables false
set_option maxHeartbeats 4000000
/-! spot -/
def spotN (n : Nat) : Int := if 1 ≤ n ∧ n ≤ 73 then Int.ofNat (n - 1) else if 101 ≤ n ∧ n < 141 then Int.ofNat (n - 101 + 73) else -1
def fSpot : Pure
  | [.int .u32 (.ofNat n)] => some (none, fun _ => .int .i64 (spotN n))
  | _ => none
theorem spot_ok : PureOk Tryz.prog ov1 133 fSpot := pureOk_of fun vs p hp => by
  unfold fSpot at hp
  split at hp
  · rename_i n
    cases hp
    have key : ∃ r h1, Evc Tryz.prog ov1 133 [.int .u32 (.ofNat n)] Heap.empty (r, h1) ∧ r = .int .i64 (spotN n) := by
      by_cases a1 : 1 ≤ n ∧ n ≤ 73
      · have e1 : Nat.blt n 1 = false := by rw [blt_eq]; simp; omega
        have e2 : Nat.blt 73 n = false := by rw [blt_eq]; simp; omega
        refine Evc.of rfl Tryz.func133 rfl rfl ?_
        have chk_ : True := by simp only [e1, e2, Tryz.underlying32, Tryz.underlying3]
        clear chk_
        repeat (first | refine EvP.seq ?_ | refine EvP.region ?_ | refine OpsP.nil ?_ | refine GuardP.no ?_ | refine DGuardP.no ?_ | refine DrP.nil ?_ | refine CondP.t ?_ | refine CondP.f ?_ | refine EvP.ret ?_ | refine EvP.skip ?_ | refine EvP.exit ?_ | refine EvP.block ?_ | refine EvP.scope ?_  | ((first | refine OpsP.put (v := ?_) (h1 := ?_) ?hd ?he ?_ | refine OpsP.eff (v := ?_) (h1 := ?_) ?he ?_ | refine GuardP.yes (v := ?_) (h1 := ?_) ?he ?_  | (refine DrP.put (d := ?_) (op := ?_) (t := ?_) (p := ?_) (a := ?_) (v := ?_) (h1 := ?_) ?ho ?hd ?he ?_; (case ho => rfl)) | (refine DrP.eff (op := ?_) (t := ?_) (p := ?_) (a := ?_) (v := ?_) (h1 := ?_) ?ho ?he ?_; (case ho => rfl)) | refine DGuardP.yes (v := ?_) (h1 := ?_) ?he ?_); (try case hd => rfl); (case he => intro run; ((try simp only [evOp, evA, val, vals, oval, parts, get_set, get_nil, ofArgs, ofValue, binOpE, arith, ilt, convertE, unOpE, builtinE, lenE, callV, List.nil_append, List.append_nil, Option.bind_some, Option.map_some, Nat.reduceEqDiff, reduceIte, Bool.not_true, Bool.not_false, List.getElem?_cons_zero, List.getElem?_cons_succ, List.getElem?_toArray, Array.toList, List.mapM_cons, List.mapM_nil, Option.pure_def, Option.bind_eq_bind, e1, e2, Tryz.underlying32, Tryz.underlying3]) <;> exact rfl)))  | ((first | refine OpsP.guard (x := ?_) (b := ?_) ?hj ?hx ?hd ?_ | (refine DrP.guard (d := ?_) (op := ?_) (t := ?_) (p := ?_) (a := ?_) (j := ?_) (w := ?_) (x := ?_) (b := ?_) ?ho ?hj ?hx ?hd ?_; (case ho => rfl)) | refine EvP.condB (c := ?_) ?hx ?_); (try case hj => rfl); (case hx => ((try simp only [val, get_set, get_nil, ofArgs, ofValue, Nat.reduceEqDiff, reduceIte, Option.map_some, e1, e2, Tryz.underlying32, Tryz.underlying3]) <;> exact rfl)); (try case hd => rfl)))
        refine ⟨_, rfl, ?_⟩
        simp only [oneOf, get_set, Nat.reduceEqDiff, reduceIte]
        rw [wrap_nat .i64 n (by simp only [half]; omega), show Int.ofNat n - 1 = Int.ofNat (n - 1) from nat_sub (b := 1) (by omega), wrap_nat .i64 (n - 1) (by simp only [half]; omega), spotN, if_pos a1]
      · by_cases a2 : 101 ≤ n ∧ n < 141
        · have e0 : Nat.blt n 1 = false := by rw [blt_eq]; simp; omega
          have e1 : Nat.blt 73 n = true := by rw [blt_eq]; simp; omega
          have e2 : Nat.blt n 101 = false := by rw [blt_eq]; simp; omega
          have e3 : Nat.blt n 141 = true := by rw [blt_eq]; simp; omega
          have w1 : wrap .u32 (wrap .i64 (113 - 73)) = 40 := rfl
          have w2 : wrap .u32 (101 + 40) = 141 := rfl
          refine Evc.of rfl Tryz.func133 rfl rfl ?_
          have chk_ : True := by simp only [e0, e1, e2, e3, Tryz.underlying32, Tryz.underlying3, call1_27, w1, w2]
          clear chk_
          repeat (first | refine EvP.seq ?_ | refine EvP.region ?_ | refine OpsP.nil ?_ | refine GuardP.no ?_ | refine DGuardP.no ?_ | refine DrP.nil ?_ | refine CondP.t ?_ | refine CondP.f ?_ | refine EvP.ret ?_ | refine EvP.skip ?_ | refine EvP.exit ?_ | refine EvP.block ?_ | refine EvP.scope ?_  | ((first | refine OpsP.put (v := ?_) (h1 := ?_) ?hd ?he ?_ | refine OpsP.eff (v := ?_) (h1 := ?_) ?he ?_ | refine GuardP.yes (v := ?_) (h1 := ?_) ?he ?_  | (refine DrP.put (d := ?_) (op := ?_) (t := ?_) (p := ?_) (a := ?_) (v := ?_) (h1 := ?_) ?ho ?hd ?he ?_; (case ho => rfl)) | (refine DrP.eff (op := ?_) (t := ?_) (p := ?_) (a := ?_) (v := ?_) (h1 := ?_) ?ho ?he ?_; (case ho => rfl)) | refine DGuardP.yes (v := ?_) (h1 := ?_) ?he ?_); (try case hd => rfl); (case he => intro run; ((try simp only [evOp, evA, val, vals, oval, parts, get_set, get_nil, ofArgs, ofValue, binOpE, arith, ilt, convertE, unOpE, builtinE, lenE, callV, List.nil_append, List.append_nil, Option.bind_some, Option.map_some, Nat.reduceEqDiff, reduceIte, Bool.not_true, Bool.not_false, List.getElem?_cons_zero, List.getElem?_cons_succ, List.getElem?_toArray, Array.toList, List.mapM_cons, List.mapM_nil, Option.pure_def, Option.bind_eq_bind, e0, e1, e2, e3, Tryz.underlying32, Tryz.underlying3, call1_27, w1, w2]) <;> exact rfl)))  | ((first | refine OpsP.guard (x := ?_) (b := ?_) ?hj ?hx ?hd ?_ | (refine DrP.guard (d := ?_) (op := ?_) (t := ?_) (p := ?_) (a := ?_) (j := ?_) (w := ?_) (x := ?_) (b := ?_) ?ho ?hj ?hx ?hd ?_; (case ho => rfl)) | refine EvP.condB (c := ?_) ?hx ?_); (try case hj => rfl); (case hx => ((try simp only [val, get_set, get_nil, ofArgs, ofValue, Nat.reduceEqDiff, reduceIte, Option.map_some, e0, e1, e2, e3, Tryz.underlying32, Tryz.underlying3, call1_27, w1, w2]) <;> exact rfl)); (try case hd => rfl)))
          refine ⟨_, rfl, ?_⟩
          simp only [oneOf, get_set, Nat.reduceEqDiff, reduceIte]
          rw [wrap_nat .i64 n (by simp only [half]; omega), show Int.ofNat n - 101 = Int.ofNat (n - 101) from nat_sub (b := 101) (by omega), wrap_nat .i64 (n - 101) (by simp only [half]; omega), show Int.ofNat (n - 101) + 73 = Int.ofNat (n - 101 + 73) from rfl,
            wrap_nat .i64 (n - 101 + 73) (by simp only [half]; omega), spotN, if_neg a1, if_pos a2]
        · have w1 : wrap .u32 (wrap .i64 (113 - 73)) = 40 := rfl
          have w2 : wrap .u32 (101 + 40) = 141 := rfl
          by_cases b1 : n < 1
          · have e0 : Nat.blt n 1 = true := by rw [blt_eq]; simp; omega
            have e1 : Nat.blt 73 n = false := by rw [blt_eq]; simp; omega
            have e2 : Nat.blt n 101 = true := by rw [blt_eq]; simp; omega
            have e3 : Nat.blt n 141 = true := by rw [blt_eq]; simp; omega
            refine Evc.of rfl Tryz.func133 rfl rfl ?_
            have chk_ : True := by simp only [e0, e1, e2, e3, Tryz.underlying32, Tryz.underlying3, call1_27, w1, w2]
            clear chk_
            repeat (first | refine EvP.seq ?_ | refine EvP.region ?_ | refine OpsP.nil ?_ | refine GuardP.no ?_ | refine DGuardP.no ?_ | refine DrP.nil ?_ | refine CondP.t ?_ | refine CondP.f ?_ | refine EvP.ret ?_ | refine EvP.skip ?_ | refine EvP.exit ?_ | refine EvP.block ?_ | refine EvP.scope ?_  | ((first | refine OpsP.put (v := ?_) (h1 := ?_) ?hd ?he ?_ | refine OpsP.eff (v := ?_) (h1 := ?_) ?he ?_ | refine GuardP.yes (v := ?_) (h1 := ?_) ?he ?_  | (refine DrP.put (d := ?_) (op := ?_) (t := ?_) (p := ?_) (a := ?_) (v := ?_) (h1 := ?_) ?ho ?hd ?he ?_; (case ho => rfl)) | (refine DrP.eff (op := ?_) (t := ?_) (p := ?_) (a := ?_) (v := ?_) (h1 := ?_) ?ho ?he ?_; (case ho => rfl)) | refine DGuardP.yes (v := ?_) (h1 := ?_) ?he ?_); (try case hd => rfl); (case he => intro run; ((try simp only [evOp, evA, val, vals, oval, parts, get_set, get_nil, ofArgs, ofValue, binOpE, arith, ilt, convertE, unOpE, builtinE, lenE, callV, List.nil_append, List.append_nil, Option.bind_some, Option.map_some, Nat.reduceEqDiff, reduceIte, Bool.not_true, Bool.not_false, List.getElem?_cons_zero, List.getElem?_cons_succ, List.getElem?_toArray, Array.toList, List.mapM_cons, List.mapM_nil, Option.pure_def, Option.bind_eq_bind, e0, e1, e2, e3, Tryz.underlying32, Tryz.underlying3, call1_27, w1, w2]) <;> exact rfl)))  | ((first | refine OpsP.guard (x := ?_) (b := ?_) ?hj ?hx ?hd ?_ | (refine DrP.guard (d := ?_) (op := ?_) (t := ?_) (p := ?_) (a := ?_) (j := ?_) (w := ?_) (x := ?_) (b := ?_) ?ho ?hj ?hx ?hd ?_; (case ho => rfl)) | refine EvP.condB (c := ?_) ?hx ?_); (try case hj => rfl); (case hx => ((try simp only [val, get_set, get_nil, ofArgs, ofValue, Nat.reduceEqDiff, reduceIte, Option.map_some, e0, e1, e2, e3, Tryz.underlying32, Tryz.underlying3, call1_27, w1, w2]) <;> exact rfl)); (try case hd => rfl)))
            refine ⟨_, rfl, ?_⟩
            simp only [oneOf, get_set, Nat.reduceEqDiff, reduceIte]
            rw [spotN, if_neg a1, if_neg a2]
          · have e0 : Nat.blt n 1 = false := by rw [blt_eq]; simp; omega
            have e1 : Nat.blt 73 n = true := by rw [blt_eq]; simp; omega
            by_cases b2 : n < 101
            · have e2 : Nat.blt n 101 = true := by rw [blt_eq]; simp; omega
              have e3 : Nat.blt n 141 = true := by rw [blt_eq]; simp; omega
              refine Evc.of rfl Tryz.func133 rfl rfl ?_
              have chk_ : True := by simp only [e0, e1, e2, e3, Tryz.underlying32, Tryz.underlying3, call1_27, w1, w2]
              clear chk_
              repeat (first | refine EvP.seq ?_ | refine EvP.region ?_ | refine OpsP.nil ?_ | refine GuardP.no ?_ | refine DGuardP.no ?_ | refine DrP.nil ?_ | refine CondP.t ?_ | refine CondP.f ?_ | refine EvP.ret ?_ | refine EvP.skip ?_ | refine EvP.exit ?_ | refine EvP.block ?_ | refine EvP.scope ?_  | ((first | refine OpsP.put (v := ?_) (h1 := ?_) ?hd ?he ?_ | refine OpsP.eff (v := ?_) (h1 := ?_) ?he ?_ | refine GuardP.yes (v := ?_) (h1 := ?_) ?he ?_  | (refine DrP.put (d := ?_) (op := ?_) (t := ?_) (p := ?_) (a := ?_) (v := ?_) (h1 := ?_) ?ho ?hd ?he ?_; (case ho => rfl)) | (refine DrP.eff (op := ?_) (t := ?_) (p := ?_) (a := ?_) (v := ?_) (h1 := ?_) ?ho ?he ?_; (case ho => rfl)) | refine DGuardP.yes (v := ?_) (h1 := ?_) ?he ?_); (try case hd => rfl); (case he => intro run; ((try simp only [evOp, evA, val, vals, oval, parts, get_set, get_nil, ofArgs, ofValue, binOpE, arith, ilt, convertE, unOpE, builtinE, lenE, callV, List.nil_append, List.append_nil, Option.bind_some, Option.map_some, Nat.reduceEqDiff, reduceIte, Bool.not_true, Bool.not_false, List.getElem?_cons_zero, List.getElem?_cons_succ, List.getElem?_toArray, Array.toList, List.mapM_cons, List.mapM_nil, Option.pure_def, Option.bind_eq_bind, e0, e1, e2, e3, Tryz.underlying32, Tryz.underlying3, call1_27, w1, w2]) <;> exact rfl)))  | ((first | refine OpsP.guard (x := ?_) (b := ?_) ?hj ?hx ?hd ?_ | (refine DrP.guard (d := ?_) (op := ?_) (t := ?_) (p := ?_) (a := ?_) (j := ?_) (w := ?_) (x := ?_) (b := ?_) ?ho ?hj ?hx ?hd ?_; (case ho => rfl)) | refine EvP.condB (c := ?_) ?hx ?_); (try case hj => rfl); (case hx => ((try simp only [val, get_set, get_nil, ofArgs, ofValue, Nat.reduceEqDiff, reduceIte, Option.map_some, e0, e1, e2, e3, Tryz.underlying32, Tryz.underlying3, call1_27, w1, w2]) <;> exact rfl)); (try case hd => rfl)))
              refine ⟨_, rfl, ?_⟩
              simp only [oneOf, get_set, Nat.reduceEqDiff, reduceIte]
              rw [spotN, if_neg a1, if_neg a2]
            · have e2 : Nat.blt n 101 = false := by rw [blt_eq]; simp; omega
              have e3 : Nat.blt n 141 = false := by rw [blt_eq]; simp; omega
              refine Evc.of rfl Tryz.func133 rfl rfl ?_
              have chk_ : True := by simp only [e0, e1, e2, e3, Tryz.underlying32, Tryz.underlying3, call1_27, w1, w2]
              clear chk_
              repeat (first | refine EvP.seq ?_ | refine EvP.region ?_ | refine OpsP.nil ?_ | refine GuardP.no ?_ | refine DGuardP.no ?_ | refine DrP.nil ?_ | refine CondP.t ?_ | refine CondP.f ?_ | refine EvP.ret ?_ | refine EvP.skip ?_ | refine EvP.exit ?_ | refine EvP.block ?_ | refine EvP.scope ?_  | ((first | refine OpsP.put (v := ?_) (h1 := ?_) ?hd ?he ?_ | refine OpsP.eff (v := ?_) (h1 := ?_) ?he ?_ | refine GuardP.yes (v := ?_) (h1 := ?_) ?he ?_  | (refine DrP.put (d := ?_) (op := ?_) (t := ?_) (p := ?_) (a := ?_) (v := ?_) (h1 := ?_) ?ho ?hd ?he ?_; (case ho => rfl)) | (refine DrP.eff (op := ?_) (t := ?_) (p := ?_) (a := ?_) (v := ?_) (h1 := ?_) ?ho ?he ?_; (case ho => rfl)) | refine DGuardP.yes (v := ?_) (h1 := ?_) ?he ?_); (try case hd => rfl); (case he => intro run; ((try simp only [evOp, evA, val, vals, oval, parts, get_set, get_nil, ofArgs, ofValue, binOpE, arith, ilt, convertE, unOpE, builtinE, lenE, callV, List.nil_append, List.append_nil, Option.bind_some, Option.map_some, Nat.reduceEqDiff, reduceIte, Bool.not_true, Bool.not_false, List.getElem?_cons_zero, List.getElem?_cons_succ, List.getElem?_toArray, Array.toList, List.mapM_cons, List.mapM_nil, Option.pure_def, Option.bind_eq_bind, e0, e1, e2, e3, Tryz.underlying32, Tryz.underlying3, call1_27, w1, w2]) <;> exact rfl)))  | ((first | refine OpsP.guard (x := ?_) (b := ?_) ?hj ?hx ?hd ?_ | (refine DrP.guard (d := ?_) (op := ?_) (t := ?_) (p := ?_) (a := ?_) (j := ?_) (w := ?_) (x := ?_) (b := ?_) ?ho ?hj ?hx ?hd ?_; (case ho => rfl)) | refine EvP.condB (c := ?_) ?hx ?_); (try case hj => rfl); (case hx => ((try simp only [val, get_set, get_nil, ofArgs, ofValue, Nat.reduceEqDiff, reduceIte, Option.map_some, e0, e1, e2, e3, Tryz.underlying32, Tryz.underlying3, call1_27, w1, w2]) <;> exact rfl)); (try case hd => rfl)))
              refine ⟨_, rfl, ?_⟩
              simp only [oneOf, get_set, Nat.reduceEqDiff, reduceIte]
              rw [spotN, if_neg a1, if_neg a2]
    obtain ⟨r, h1, k1, rfl⟩ := key
    exact ⟨_, h1, k1, rfl⟩
  · cases hp
end
end Go.Ev

namespace Go.Ev
noncomputable section
open Go.Proofs
set_option linter.unusedSimpArgs false
set_option linter.unusedVariables false
set_option maxRecDepth 10000
set_option maxHeartbeats 4000000
def ov2 : Ov := ov1.with 133 fSpot
theorem ov2_ok : OvOk Tryz.prog ov2 := Ov.with_ok prog_ok ov1_ok spot_ok
theorem call2_27 (run : Run) (h : Heap) : callE Tryz.prog ov2 run 43 [] h = some (.agg tabCells, h) := rfl
theorem call2_26 (run : Run) (h : Heap) (n : Nat) : callE Tryz.prog ov2 run 133 [.int .u32 (.ofNat n)] h = some (.int .i64 (spotN n), h) := rfl

/-! Get -/
def noRow : List LV := [.int .u32 0, .str [], .int .i64 0, .int .i64 0, .int .i64 0, .bool false, .bool false]
def rowAt (i : Nat) : List LV := (tabCells.drop (i * 7)).take 7
theorem tab_len : tabCells.length = 791 := by kernel_rfl
theorem rowAt_ok : ∀ i, i < 113 → (rowAt i).length = 7 ∧ (rowAt i).all LV.isCell = true ∧ (rowAt i).all (bareV 9) = true := by decide +kernel
theorem index_tab (i : Nat) (hi : i < 113) : indexOp Tryz.prog 98 (.agg tabCells) (.int .i64 (.ofNat i)) = some (.agg (rowAt i)) := by
  have h1 : Nat.blt i 113 = true := by rw [blt_eq]; simp; omega
  have h2 : Nat.ble (i * 7 + 7) tabCells.length = true := by rw [ble_eq, tab_len]; simp; omega
  have ha : isAggB Tryz.prog 93 = some true := by kernel_rfl
  have hs : szOf Tryz.prog 93 = some 7 := by kernel_rfl
  have hu : Tryz.prog.underlying 98 = some (.array 113 93) := by kernel_rfl
  simp only [indexOp, asNat?, Option.bind_some, hu, hs, h1, partAt, ha, h2, rowAt]
theorem rowAt_bare : ∀ i, i < 113 → (rowAt i).all (bareV 8) = true := by decide +kernel
def getN (n : Nat) : LV := if spotN n ≥ 0 then .tuple [.agg (rowAt (spotN n).toNat), .bool true] else .tuple [.agg noRow, .bool false]
def fGet : Pure
  | [.int .u32 (.ofNat n)] => some (none, fun _ => getN n)
  | _ => none
theorem spotN_lt (n : Nat) : spotN n = -1 ∨ ∃ i, i < 113 ∧ spotN n = Int.ofNat i := by
  unfold spotN
  split
  · exact .inr ⟨n - 1, by omega, rfl⟩
  · split
    · exact .inr ⟨_, by omega, rfl⟩
    · exact .inl rfl
theorem zero39 : zeroLV Tryz.prog 38 = some (.agg noRow) := by kernel_rfl
theorem agg39 : isAggB Tryz.prog 38 = some true := by kernel_rfl
theorem sz39 : szOf Tryz.prog 38 = some 7 := by kernel_rfl
theorem build39 : buildAt Tryz.prog 38 [] = some (.agg noRow) := by kernel_rfl
theorem store_fresh {h : Heap} {b : Nat} {cs new : List LV} (hb : h.get b = some (.row cs 0 0)) (h1 : cs.length = 7) (h2 : new.length = 7) (h3 : new.all LV.isCell = true) : storeAt Tryz.prog 38 (.ptr b 0 0) (.agg new) h = some (h.set b (.row new 0 0)) := by
  have e1 : Nat.beq new.length 7 = true := by rw [beq_eq]; simp [h2]
  have e2 : Nat.ble (0 + new.length) cs.length = true := by rw [ble_eq]; simp; omega
  simp only [storeAt, sz39, Option.bind_some, LV.cells, e1, h3, Bool.and_self, writeN, hb, e2, Nat.beq]
  have : splice cs 0 new = new := by simp [splice, List.drop_eq_nil_of_le (show cs.length ≤ new.length by omega)]
  rw [this]
theorem load_row {h : Heap} {b : Nat} {cs : List LV} (hb : h.get b = some (.row cs 0 0)) (h1 : cs.length = 7) : loadAt Tryz.prog 38 (.ptr b 0 0) h = some (.agg cs) := by
  have e2 : Nat.ble (0 + 7) cs.length = true := by rw [ble_eq]; simp; omega
  simp only [loadAt, agg39, sz39, Option.bind_some, readN, hb, isHi, Nat.beq, e2, Bool.and_self, Option.map_some]
  simp [List.take_of_length_le (show cs.length ≤ 7 by omega)]
theorem get_ok : PureOk Tryz.prog ov2 91 fGet := pureOk_of fun vs p hp => by
  unfold fGet at hp
  split at hp
  · rename_i n
    cases hp
    have key : ∃ r h1, Evc Tryz.prog ov2 91 [.int .u32 (.ofNat n)] Heap.empty (r, h1) ∧ r = getN n := by
      rcases spotN_lt n with hn | ⟨i, hi, hn⟩
      · have w1 : ilt (-1) 0 = true := rfl
        refine Evc.of rfl Tryz.func91 rfl rfl ?_
        have chk_ : True := by simp only [zero39, LV.cells, putNew_eq, hnext_empty, call2_26, call2_27, hn, w1, build39]
        clear chk_
        repeat (first | refine EvP.seq ?_ | refine EvP.region ?_ | refine OpsP.nil ?_ | refine GuardP.no ?_ | refine DGuardP.no ?_ | refine DrP.nil ?_ | refine CondP.t ?_ | refine CondP.f ?_ | refine EvP.ret ?_ | refine EvP.skip ?_ | refine EvP.exit ?_ | refine EvP.block ?_ | refine EvP.scope ?_  | ((first | refine OpsP.put (v := ?_) (h1 := ?_) ?hd ?he ?_ | refine OpsP.eff (v := ?_) (h1 := ?_) ?he ?_ | refine GuardP.yes (v := ?_) (h1 := ?_) ?he ?_  | (refine DrP.put (d := ?_) (op := ?_) (t := ?_) (p := ?_) (a := ?_) (v := ?_) (h1 := ?_) ?ho ?hd ?he ?_; (case ho => rfl)) | (refine DrP.eff (op := ?_) (t := ?_) (p := ?_) (a := ?_) (v := ?_) (h1 := ?_) ?ho ?he ?_; (case ho => rfl)) | refine DGuardP.yes (v := ?_) (h1 := ?_) ?he ?_); (try case hd => rfl); (case he => intro run; ((try simp only [evOp, evA, val, vals, oval, parts, get_set, get_nil, ofArgs, ofValue, binOpE, arith, ilt, convertE, unOpE, builtinE, lenE, callV, List.nil_append, List.append_nil, Option.bind_some, Option.map_some, Nat.reduceEqDiff, reduceIte, Bool.not_true, Bool.not_false, List.getElem?_cons_zero, List.getElem?_cons_succ, List.getElem?_toArray, Array.toList, List.mapM_cons, List.mapM_nil, Option.pure_def, Option.bind_eq_bind, zero39, LV.cells, putNew_eq, hnext_empty, call2_26, call2_27, hn, w1, build39]) <;> exact rfl)))  | ((first | refine OpsP.guard (x := ?_) (b := ?_) ?hj ?hx ?hd ?_ | (refine DrP.guard (d := ?_) (op := ?_) (t := ?_) (p := ?_) (a := ?_) (j := ?_) (w := ?_) (x := ?_) (b := ?_) ?ho ?hj ?hx ?hd ?_; (case ho => rfl)) | refine EvP.condB (c := ?_) ?hx ?_); (try case hj => rfl); (case hx => ((try simp only [val, get_set, get_nil, ofArgs, ofValue, Nat.reduceEqDiff, reduceIte, Option.map_some, zero39, LV.cells, putNew_eq, hnext_empty, call2_26, call2_27, hn, w1, build39]) <;> exact rfl)); (try case hd => rfl)))
        refine ⟨_, rfl, ?_⟩
        simp only [getN, hn]
        rfl
      · have e1 : Nat.blt i 0 = false := by rw [blt_eq]; simp
        have hr := rowAt_ok i hi
        have st : storeAt Tryz.prog 38 (.ptr 0 0 0) (.agg (rowAt i)) (Heap.empty.new (.row noRow 0 0)).2 = some ((Heap.empty.new (.row noRow 0 0)).2.set 0 (.row (rowAt i) 0 0)) :=
          store_fresh (cs := noRow) (by simp only [hget_new, hnext_empty, reduceIte]) rfl hr.1 hr.2.1
        have ld : loadAt Tryz.prog 38 (.ptr 0 0 0) ((Heap.empty.new (.row noRow 0 0)).2.set 0 (.row (rowAt i) 0 0)) = some (.agg (rowAt i)) := load_row (by simp only [hget_set, reduceIte]) hr.1
        refine Evc.of rfl Tryz.func91 rfl rfl ?_
        have chk_ : True := by simp only [zero39, LV.cells, putNew_eq, hnext_empty, call2_26, call2_27, hn, e1, index_tab i hi, st]
        clear chk_
        repeat (first | refine EvP.seq ?_ | refine EvP.region ?_ | refine OpsP.nil ?_ | refine GuardP.no ?_ | refine DGuardP.no ?_ | refine DrP.nil ?_ | refine CondP.t ?_ | refine CondP.f ?_ | refine EvP.ret ?_ | refine EvP.skip ?_ | refine EvP.exit ?_ | refine EvP.block ?_ | refine EvP.scope ?_  | ((first | refine OpsP.put (v := ?_) (h1 := ?_) ?hd ?he ?_ | refine OpsP.eff (v := ?_) (h1 := ?_) ?he ?_ | refine GuardP.yes (v := ?_) (h1 := ?_) ?he ?_  | (refine DrP.put (d := ?_) (op := ?_) (t := ?_) (p := ?_) (a := ?_) (v := ?_) (h1 := ?_) ?ho ?hd ?he ?_; (case ho => rfl)) | (refine DrP.eff (op := ?_) (t := ?_) (p := ?_) (a := ?_) (v := ?_) (h1 := ?_) ?ho ?he ?_; (case ho => rfl)) | refine DGuardP.yes (v := ?_) (h1 := ?_) ?he ?_); (try case hd => rfl); (case he => intro run; ((try simp only [evOp, evA, val, vals, oval, parts, get_set, get_nil, ofArgs, ofValue, binOpE, arith, ilt, convertE, unOpE, builtinE, lenE, callV, List.nil_append, List.append_nil, Option.bind_some, Option.map_some, Nat.reduceEqDiff, reduceIte, Bool.not_true, Bool.not_false, List.getElem?_cons_zero, List.getElem?_cons_succ, List.getElem?_toArray, Array.toList, List.mapM_cons, List.mapM_nil, Option.pure_def, Option.bind_eq_bind, zero39, LV.cells, putNew_eq, hnext_empty, call2_26, call2_27, hn, e1, index_tab i hi, st]) <;> exact rfl)))  | ((first | refine OpsP.guard (x := ?_) (b := ?_) ?hj ?hx ?hd ?_ | (refine DrP.guard (d := ?_) (op := ?_) (t := ?_) (p := ?_) (a := ?_) (j := ?_) (w := ?_) (x := ?_) (b := ?_) ?ho ?hj ?hx ?hd ?_; (case ho => rfl)) | refine EvP.condB (c := ?_) ?hx ?_); (try case hj => rfl); (case hx => ((try simp only [val, get_set, get_nil, ofArgs, ofValue, Nat.reduceEqDiff, reduceIte, Option.map_some, zero39, LV.cells, putNew_eq, hnext_empty, call2_26, call2_27, hn, e1, index_tab i hi, st]) <;> exact rfl)); (try case hd => rfl)))
        refine ⟨[.agg (rowAt i), .bool true], ?_, ?_⟩
        · show resultsE Tryz.prog _ _ [.cell 2 38, .tmp 3] = _
          simp only [resultsE, get_set, Nat.reduceEqDiff, reduceIte, ld, Option.bind_some, Option.map_some]
        · simp only [getN, hn, oneOf]
          rfl
    obtain ⟨r, h1, k1, rfl⟩ := key
    refine ⟨_, h1, k1, ?_⟩
    have hb : bareV 10 (getN n) = true := by
      unfold getN
      rcases spotN_lt n with hn | ⟨i, hi, hn⟩
      · rw [hn]; rfl
      · have hr := (rowAt_ok i hi).2.2
        rw [hn]
        rw [if_pos (by exact Int.natCast_nonneg i)]
        show bareV 10 (.tuple [.agg (rowAt i), .bool true]) = true
        have : bareV 9 (.agg (rowAt i)) = true := by
          show (rowAt i).all (bareV 8) = true
          exact (rowAt_bare i hi)
        show (bareV 9 (.agg (rowAt i)) && (bareV 9 (.bool true) && true)) = true
        rw [this]; rfl
    simp only [giftE, hb]
  · cases hp
end
end Go.Ev

namespace Go.Ev
noncomputable section
open Go.Proofs
set_option linter.unusedSimpArgs false
set_option linter.unusedVariables false
set_option maxRecDepth 10000
set_option maxHeartbeats 4000000
def ov3 : Ov := ov2.with 91 fGet
theorem ov3_ok : OvOk Tryz.prog ov3 := Ov.with_ok prog_ok ov2_ok get_ok
def ov12 : Ov := ov3
theorem ov12_ok : OvOk Tryz.prog ov12 := ov3_ok
def letB (c : Nat) : Bool := Nat.blt 32 c && !Nat.blt 126 c
def fLetter : Pure
  | [.int .u8 (.ofNat c)] => some (none, fun _ => .bool (letB c))
  | _ => none
theorem letter_ok : PureOk Tryz.prog ov12 90 fLetter := pureOk_of fun vs p hp => by
  unfold fLetter at hp
  split at hp
  · rename_i c
    cases hp
    have key : ∃ r h1, Evc Tryz.prog ov12 90 [.int .u8 (.ofNat c)] Heap.empty (r, h1) ∧ r = .bool (letB c) := by
      cases e1 : Nat.blt 32 c with
      | true =>
        refine Evc.of rfl Tryz.func90 rfl rfl ?_
        have chk_ : True := by simp only [e1]
        clear chk_
        repeat (first | refine EvP.seq ?_ | refine EvP.region ?_ | refine OpsP.nil ?_ | refine GuardP.no ?_ | refine DGuardP.no ?_ | refine DrP.nil ?_ | refine CondP.t ?_ | refine CondP.f ?_ | refine EvP.ret ?_ | refine EvP.skip ?_ | refine EvP.exit ?_ | refine EvP.block ?_ | refine EvP.scope ?_  | ((first | refine OpsP.put (v := ?_) (h1 := ?_) ?hd ?he ?_ | refine OpsP.eff (v := ?_) (h1 := ?_) ?he ?_ | refine GuardP.yes (v := ?_) (h1 := ?_) ?he ?_  | (refine DrP.put (d := ?_) (op := ?_) (t := ?_) (p := ?_) (a := ?_) (v := ?_) (h1 := ?_) ?ho ?hd ?he ?_; (case ho => rfl)) | (refine DrP.eff (op := ?_) (t := ?_) (p := ?_) (a := ?_) (v := ?_) (h1 := ?_) ?ho ?he ?_; (case ho => rfl)) | refine DGuardP.yes (v := ?_) (h1 := ?_) ?he ?_); (try case hd => rfl); (case he => intro run; ((try simp only [evOp, evA, val, vals, oval, parts, get_set, get_nil, ofArgs, ofValue, binOpE, arith, ilt, convertE, unOpE, builtinE, lenE, callV, List.nil_append, List.append_nil, Option.bind_some, Option.map_some, Nat.reduceEqDiff, reduceIte, Bool.not_true, Bool.not_false, List.getElem?_cons_zero, List.getElem?_cons_succ, List.getElem?_toArray, Array.toList, List.mapM_cons, List.mapM_nil, Option.pure_def, Option.bind_eq_bind, e1]) <;> exact rfl)))  | ((first | refine OpsP.guard (x := ?_) (b := ?_) ?hj ?hx ?hd ?_ | (refine DrP.guard (d := ?_) (op := ?_) (t := ?_) (p := ?_) (a := ?_) (j := ?_) (w := ?_) (x := ?_) (b := ?_) ?ho ?hj ?hx ?hd ?_; (case ho => rfl)) | refine EvP.condB (c := ?_) ?hx ?_); (try case hj => rfl); (case hx => ((try simp only [val, get_set, get_nil, ofArgs, ofValue, Nat.reduceEqDiff, reduceIte, Option.map_some, e1]) <;> exact rfl)); (try case hd => rfl)))
        refine ⟨_, rfl, ?_⟩
        simp only [oneOf, get_set, Nat.reduceEqDiff, reduceIte, letB, e1, Bool.true_and]
      | false =>
        refine Evc.of rfl Tryz.func90 rfl rfl ?_
        have chk_ : True := by simp only [e1]
        clear chk_
        repeat (first | refine EvP.seq ?_ | refine EvP.region ?_ | refine OpsP.nil ?_ | refine GuardP.no ?_ | refine DGuardP.no ?_ | refine DrP.nil ?_ | refine CondP.t ?_ | refine CondP.f ?_ | refine EvP.ret ?_ | refine EvP.skip ?_ | refine EvP.exit ?_ | refine EvP.block ?_ | refine EvP.scope ?_  | ((first | refine OpsP.put (v := ?_) (h1 := ?_) ?hd ?he ?_ | refine OpsP.eff (v := ?_) (h1 := ?_) ?he ?_ | refine GuardP.yes (v := ?_) (h1 := ?_) ?he ?_  | (refine DrP.put (d := ?_) (op := ?_) (t := ?_) (p := ?_) (a := ?_) (v := ?_) (h1 := ?_) ?ho ?hd ?he ?_; (case ho => rfl)) | (refine DrP.eff (op := ?_) (t := ?_) (p := ?_) (a := ?_) (v := ?_) (h1 := ?_) ?ho ?he ?_; (case ho => rfl)) | refine DGuardP.yes (v := ?_) (h1 := ?_) ?he ?_); (try case hd => rfl); (case he => intro run; ((try simp only [evOp, evA, val, vals, oval, parts, get_set, get_nil, ofArgs, ofValue, binOpE, arith, ilt, convertE, unOpE, builtinE, lenE, callV, List.nil_append, List.append_nil, Option.bind_some, Option.map_some, Nat.reduceEqDiff, reduceIte, Bool.not_true, Bool.not_false, List.getElem?_cons_zero, List.getElem?_cons_succ, List.getElem?_toArray, Array.toList, List.mapM_cons, List.mapM_nil, Option.pure_def, Option.bind_eq_bind, e1]) <;> exact rfl)))  | ((first | refine OpsP.guard (x := ?_) (b := ?_) ?hj ?hx ?hd ?_ | (refine DrP.guard (d := ?_) (op := ?_) (t := ?_) (p := ?_) (a := ?_) (j := ?_) (w := ?_) (x := ?_) (b := ?_) ?ho ?hj ?hx ?hd ?_; (case ho => rfl)) | refine EvP.condB (c := ?_) ?hx ?_); (try case hj => rfl); (case hx => ((try simp only [val, get_set, get_nil, ofArgs, ofValue, Nat.reduceEqDiff, reduceIte, Option.map_some, e1]) <;> exact rfl)); (try case hd => rfl)))
        refine ⟨_, rfl, ?_⟩
        simp only [oneOf, get_set, Nat.reduceEqDiff, reduceIte, letB, e1, Bool.false_and]
    obtain ⟨r, h1, k1, rfl⟩ := key
    exact ⟨_, h1, k1, rfl⟩
  · cases hp
def ov13 : Ov := ov12.with 90 fLetter
theorem ov13_ok : OvOk Tryz.prog ov13 := Ov.with_ok prog_ok ov12_ok letter_ok
end
end Go.Ev

namespace Go.Ev
noncomputable section
open Go.Proofs
set_option linter.unusedSimpArgs false
set_option linter.unusedVariables false
set_option maxRecDepth 10000
set_option maxHeartbeats 4000000
/-! image.Right -/
theorem fa32_0 (b o : Nat) : fieldAddrOp Tryz.prog 31 (.ptr b 0 o) 0 = some (.ptr b 0 (o + 0)) := by kernel_rfl
theorem fa32_1 (b o : Nat) : fieldAddrOp Tryz.prog 31 (.ptr b 0 o) 1 = some (.ptr b 0 (o + 1)) := by kernel_rfl
theorem fa32_2 (b o : Nat) : fieldAddrOp Tryz.prog 31 (.ptr b 0 o) 2 = some (.ptr b 0 (o + 2)) := by kernel_rfl
theorem agg9 : isAggB Tryz.prog 9 = some false := by kernel_rfl
theorem agg5 : isAggB Tryz.prog 5 = some false := by kernel_rfl
theorem agg22 : isAggB Tryz.prog 29 = some false := by kernel_rfl
def flagB (fl : Nat) : Bool := ieq (unwrapU .u8 (Nat.land (bitsOf .u8 (Int.ofNat fl)) (pow2 .u8 - 1 - bitsOf .u8 3))) 0
def rightW (nm : List Nat) (fl : Nat) (len : Nat) : Bool := !Nat.beq nm.length 0 && !Nat.blt 31 nm.length && flagB fl && !Nat.blt 1000 len && nm.all letB
theorem call13_37 (run : Run) (h : Heap) (c : Nat) : callE Tryz.prog ov13 run 90 [.int .u8 (.ofNat c)] h = some (.bool (letB c), h) := rfl
theorem right_body (nm : List Nat) (fl k : Nat) (cd : LV) (hl : nm.length < 2 ^ 62) (hcell : cd.cells = [cd]) (hne : ∀ h, lenE Tryz.prog 29 cd h = some (.int .i64 (.ofNat k))) : ∃ r h1, Evc Tryz.prog ov13 36 [.agg [.str nm, .int .u8 (.ofNat fl), cd]] Heap.empty (r, h1) ∧ r = .bool (rightW nm fl k) := by
  have l0 : loadAt Tryz.prog 9 (.ptr 0 0 (0 + 0)) (Heap.empty.new (.row [.str nm, .int .u8 (.ofNat fl), cd] 0 0)).2 = some (.str nm) := by
    simp only [loadAt, agg9, readN, hget_new, hnext_empty, reduceIte]; rfl
  have l1 : loadAt Tryz.prog 5 (.ptr 0 0 (0 + 1)) (Heap.empty.new (.row [.str nm, .int .u8 (.ofNat fl), cd] 0 0)).2 = some (.int .u8 (.ofNat fl)) := by
    simp only [loadAt, agg5, readN, hget_new, hnext_empty, reduceIte]; rfl
  have l2 : loadAt Tryz.prog 29 (.ptr 0 0 (0 + 2)) (Heap.empty.new (.row [.str nm, .int .u8 (.ofNat fl), cd] 0 0)).2 = some cd := by
    simp only [loadAt, agg22, readN, hget_new, hnext_empty, reduceIte]; rfl
  have ln : ∀ h, lenE Tryz.prog 9 (.str nm) h = some (.int .i64 (.ofNat nm.length)) := fun h => by simp only [lenE, Tryz.underlying9]
  refine Evc.of rfl Tryz.func36 rfl rfl ?_
  cases b0 : Nat.beq nm.length 0 with
  | true =>
    have chk_ : True := by simp only [LV.cells, putNew_eq, hnext_empty, fa32_0, fa32_1, fa32_2, l0, l1, l2, ln, hne, ieq, b0]
    clear chk_
    repeat (first | refine EvP.seq ?_ | refine EvP.region ?_ | refine OpsP.nil ?_ | refine GuardP.no ?_ | refine DGuardP.no ?_ | refine DrP.nil ?_ | refine CondP.t ?_ | refine CondP.f ?_ | refine EvP.ret ?_ | refine EvP.skip ?_ | refine EvP.exit ?_ | refine EvP.block ?_ | refine EvP.scope ?_  | ((first | refine OpsP.put (v := ?_) (h1 := ?_) ?hd ?he ?_ | refine OpsP.eff (v := ?_) (h1 := ?_) ?he ?_ | refine GuardP.yes (v := ?_) (h1 := ?_) ?he ?_  | (refine DrP.put (d := ?_) (op := ?_) (t := ?_) (p := ?_) (a := ?_) (v := ?_) (h1 := ?_) ?ho ?hd ?he ?_; (case ho => rfl)) | (refine DrP.eff (op := ?_) (t := ?_) (p := ?_) (a := ?_) (v := ?_) (h1 := ?_) ?ho ?he ?_; (case ho => rfl)) | refine DGuardP.yes (v := ?_) (h1 := ?_) ?he ?_); (try case hd => rfl); (case he => intro run; ((try simp only [evOp, evA, val, vals, oval, parts, get_set, get_nil, ofArgs, ofValue, binOpE, arith, ilt, convertE, unOpE, builtinE, callV, List.nil_append, List.append_nil, Option.bind_some, Option.map_some, Nat.reduceEqDiff, reduceIte, Bool.not_true, Bool.not_false, List.getElem?_cons_zero, List.getElem?_cons_succ, List.getElem?_toArray, Array.toList, List.mapM_cons, List.mapM_nil, Option.pure_def, Option.bind_eq_bind, LV.cells, putNew_eq, hnext_empty, fa32_0, fa32_1, fa32_2, l0, l1, l2, ln, hne, ieq, b0]) <;> exact rfl)))  | ((first | refine OpsP.guard (x := ?_) (b := ?_) ?hj ?hx ?hd ?_ | (refine DrP.guard (d := ?_) (op := ?_) (t := ?_) (p := ?_) (a := ?_) (j := ?_) (w := ?_) (x := ?_) (b := ?_) ?ho ?hj ?hx ?hd ?_; (case ho => rfl)) | refine EvP.condB (c := ?_) ?hx ?_); (try case hj => rfl); (case hx => ((try simp only [val, get_set, get_nil, ofArgs, ofValue, Nat.reduceEqDiff, reduceIte, Option.map_some, LV.cells, putNew_eq, hnext_empty, fa32_0, fa32_1, fa32_2, l0, l1, l2, ln, hne, ieq, b0]) <;> exact rfl)); (try case hd => rfl)))
    refine ⟨_, rfl, ?_⟩
    simp only [oneOf, get_set, Nat.reduceEqDiff, reduceIte, rightW, b0, Bool.not_true, Bool.false_and]
  | false =>
    cases b1 : Nat.blt 31 nm.length with
    | true =>
      have chk_ : True := by simp only [LV.cells, putNew_eq, hnext_empty, fa32_0, fa32_1, fa32_2, l0, l1, l2, ln, hne, ieq, b0, b1]
      clear chk_
      repeat (first | refine EvP.seq ?_ | refine EvP.region ?_ | refine OpsP.nil ?_ | refine GuardP.no ?_ | refine DGuardP.no ?_ | refine DrP.nil ?_ | refine CondP.t ?_ | refine CondP.f ?_ | refine EvP.ret ?_ | refine EvP.skip ?_ | refine EvP.exit ?_ | refine EvP.block ?_ | refine EvP.scope ?_  | ((first | refine OpsP.put (v := ?_) (h1 := ?_) ?hd ?he ?_ | refine OpsP.eff (v := ?_) (h1 := ?_) ?he ?_ | refine GuardP.yes (v := ?_) (h1 := ?_) ?he ?_  | (refine DrP.put (d := ?_) (op := ?_) (t := ?_) (p := ?_) (a := ?_) (v := ?_) (h1 := ?_) ?ho ?hd ?he ?_; (case ho => rfl)) | (refine DrP.eff (op := ?_) (t := ?_) (p := ?_) (a := ?_) (v := ?_) (h1 := ?_) ?ho ?he ?_; (case ho => rfl)) | refine DGuardP.yes (v := ?_) (h1 := ?_) ?he ?_); (try case hd => rfl); (case he => intro run; ((try simp only [evOp, evA, val, vals, oval, parts, get_set, get_nil, ofArgs, ofValue, binOpE, arith, ilt, convertE, unOpE, builtinE, callV, List.nil_append, List.append_nil, Option.bind_some, Option.map_some, Nat.reduceEqDiff, reduceIte, Bool.not_true, Bool.not_false, List.getElem?_cons_zero, List.getElem?_cons_succ, List.getElem?_toArray, Array.toList, List.mapM_cons, List.mapM_nil, Option.pure_def, Option.bind_eq_bind, LV.cells, putNew_eq, hnext_empty, fa32_0, fa32_1, fa32_2, l0, l1, l2, ln, hne, ieq, b0, b1]) <;> exact rfl)))  | ((first | refine OpsP.guard (x := ?_) (b := ?_) ?hj ?hx ?hd ?_ | (refine DrP.guard (d := ?_) (op := ?_) (t := ?_) (p := ?_) (a := ?_) (j := ?_) (w := ?_) (x := ?_) (b := ?_) ?ho ?hj ?hx ?hd ?_; (case ho => rfl)) | refine EvP.condB (c := ?_) ?hx ?_); (try case hj => rfl); (case hx => ((try simp only [val, get_set, get_nil, ofArgs, ofValue, Nat.reduceEqDiff, reduceIte, Option.map_some, LV.cells, putNew_eq, hnext_empty, fa32_0, fa32_1, fa32_2, l0, l1, l2, ln, hne, ieq, b0, b1]) <;> exact rfl)); (try case hd => rfl)))
      refine ⟨_, rfl, ?_⟩
      simp only [oneOf, get_set, Nat.reduceEqDiff, reduceIte, rightW, b0, b1, Bool.not_true, Bool.false_and, Bool.and_false]
    | false =>
      have c0 : ieq (Int.ofNat nm.length) 0 = false := b0
      cases b2 : flagB fl with
      | false =>
        have c2 : ieq (unwrapU .u8 (Nat.land (bitsOf .u8 (Int.ofNat fl)) (pow2 .u8 - 1 - bitsOf .u8 3))) 0 = false := b2
        have chk_ : True := by simp only [LV.cells, putNew_eq, hnext_empty, fa32_0, fa32_1, fa32_2, l0, l1, l2, ln, hne, c0, b1, c2]
        clear chk_
        repeat (first | refine EvP.seq ?_ | refine EvP.region ?_ | refine OpsP.nil ?_ | refine GuardP.no ?_ | refine DGuardP.no ?_ | refine DrP.nil ?_ | refine CondP.t ?_ | refine CondP.f ?_ | refine EvP.ret ?_ | refine EvP.skip ?_ | refine EvP.exit ?_ | refine EvP.block ?_ | refine EvP.scope ?_  | ((first | refine OpsP.put (v := ?_) (h1 := ?_) ?hd ?he ?_ | refine OpsP.eff (v := ?_) (h1 := ?_) ?he ?_ | refine GuardP.yes (v := ?_) (h1 := ?_) ?he ?_  | (refine DrP.put (d := ?_) (op := ?_) (t := ?_) (p := ?_) (a := ?_) (v := ?_) (h1 := ?_) ?ho ?hd ?he ?_; (case ho => rfl)) | (refine DrP.eff (op := ?_) (t := ?_) (p := ?_) (a := ?_) (v := ?_) (h1 := ?_) ?ho ?he ?_; (case ho => rfl)) | refine DGuardP.yes (v := ?_) (h1 := ?_) ?he ?_); (try case hd => rfl); (case he => intro run; ((try simp only [evOp, evA, val, vals, oval, parts, get_set, get_nil, ofArgs, ofValue, binOpE, arith, ilt, convertE, unOpE, builtinE, callV, List.nil_append, List.append_nil, Option.bind_some, Option.map_some, Nat.reduceEqDiff, reduceIte, Bool.not_true, Bool.not_false, List.getElem?_cons_zero, List.getElem?_cons_succ, List.getElem?_toArray, Array.toList, List.mapM_cons, List.mapM_nil, Option.pure_def, Option.bind_eq_bind, LV.cells, putNew_eq, hnext_empty, fa32_0, fa32_1, fa32_2, l0, l1, l2, ln, hne, c0, b1, c2]) <;> exact rfl)))  | ((first | refine OpsP.guard (x := ?_) (b := ?_) ?hj ?hx ?hd ?_ | (refine DrP.guard (d := ?_) (op := ?_) (t := ?_) (p := ?_) (a := ?_) (j := ?_) (w := ?_) (x := ?_) (b := ?_) ?ho ?hj ?hx ?hd ?_; (case ho => rfl)) | refine EvP.condB (c := ?_) ?hx ?_); (try case hj => rfl); (case hx => ((try simp only [val, get_set, get_nil, ofArgs, ofValue, Nat.reduceEqDiff, reduceIte, Option.map_some, LV.cells, putNew_eq, hnext_empty, fa32_0, fa32_1, fa32_2, l0, l1, l2, ln, hne, c0, b1, c2]) <;> exact rfl)); (try case hd => rfl)))
        refine ⟨_, rfl, ?_⟩
        simp only [oneOf, get_set, Nat.reduceEqDiff, reduceIte, rightW, b0, b1, b2, Bool.not_true, Bool.false_and, Bool.and_false]
      | true =>
        have c2 : ieq (unwrapU .u8 (Nat.land (bitsOf .u8 (Int.ofNat fl)) (pow2 .u8 - 1 - bitsOf .u8 3))) 0 = true := b2
        cases b3 : Nat.blt 1000 k with
        | true =>
          have chk_ : True := by simp only [LV.cells, putNew_eq, hnext_empty, fa32_0, fa32_1, fa32_2, l0, l1, l2, ln, hne, c0, b1, c2, b3]
          clear chk_
          repeat (first | refine EvP.seq ?_ | refine EvP.region ?_ | refine OpsP.nil ?_ | refine GuardP.no ?_ | refine DGuardP.no ?_ | refine DrP.nil ?_ | refine CondP.t ?_ | refine CondP.f ?_ | refine EvP.ret ?_ | refine EvP.skip ?_ | refine EvP.exit ?_ | refine EvP.block ?_ | refine EvP.scope ?_  | ((first | refine OpsP.put (v := ?_) (h1 := ?_) ?hd ?he ?_ | refine OpsP.eff (v := ?_) (h1 := ?_) ?he ?_ | refine GuardP.yes (v := ?_) (h1 := ?_) ?he ?_  | (refine DrP.put (d := ?_) (op := ?_) (t := ?_) (p := ?_) (a := ?_) (v := ?_) (h1 := ?_) ?ho ?hd ?he ?_; (case ho => rfl)) | (refine DrP.eff (op := ?_) (t := ?_) (p := ?_) (a := ?_) (v := ?_) (h1 := ?_) ?ho ?he ?_; (case ho => rfl)) | refine DGuardP.yes (v := ?_) (h1 := ?_) ?he ?_); (try case hd => rfl); (case he => intro run; ((try simp only [evOp, evA, val, vals, oval, parts, get_set, get_nil, ofArgs, ofValue, binOpE, arith, ilt, convertE, unOpE, builtinE, callV, List.nil_append, List.append_nil, Option.bind_some, Option.map_some, Nat.reduceEqDiff, reduceIte, Bool.not_true, Bool.not_false, List.getElem?_cons_zero, List.getElem?_cons_succ, List.getElem?_toArray, Array.toList, List.mapM_cons, List.mapM_nil, Option.pure_def, Option.bind_eq_bind, LV.cells, putNew_eq, hnext_empty, fa32_0, fa32_1, fa32_2, l0, l1, l2, ln, hne, c0, b1, c2, b3]) <;> exact rfl)))  | ((first | refine OpsP.guard (x := ?_) (b := ?_) ?hj ?hx ?hd ?_ | (refine DrP.guard (d := ?_) (op := ?_) (t := ?_) (p := ?_) (a := ?_) (j := ?_) (w := ?_) (x := ?_) (b := ?_) ?ho ?hj ?hx ?hd ?_; (case ho => rfl)) | refine EvP.condB (c := ?_) ?hx ?_); (try case hj => rfl); (case hx => ((try simp only [val, get_set, get_nil, ofArgs, ofValue, Nat.reduceEqDiff, reduceIte, Option.map_some, LV.cells, putNew_eq, hnext_empty, fa32_0, fa32_1, fa32_2, l0, l1, l2, ln, hne, c0, b1, c2, b3]) <;> exact rfl)); (try case hd => rfl)))
          refine ⟨_, rfl, ?_⟩
          simp only [oneOf, get_set, Nat.reduceEqDiff, reduceIte, rightW, b0, b1, b2, b3, Bool.not_true, Bool.false_and, Bool.and_false]
        | false =>
          have chk_ : True := by simp only [LV.cells, putNew_eq, hnext_empty, fa32_0, fa32_1, fa32_2, l0, l1, l2, ln, hne, c0, b1, c2, b3]
          clear chk_
          repeat (first | refine EvP.seq ?_ | refine EvP.region ?_ | refine OpsP.nil ?_ | refine GuardP.no ?_ | refine DGuardP.no ?_ | refine DrP.nil ?_ | refine CondP.t ?_ | refine CondP.f ?_ | refine EvP.ret ?_ | refine EvP.skip ?_ | refine EvP.exit ?_ | refine EvP.block ?_ | refine EvP.scope ?_  | ((first | refine OpsP.put (v := ?_) (h1 := ?_) ?hd ?he ?_ | refine OpsP.eff (v := ?_) (h1 := ?_) ?he ?_ | refine GuardP.yes (v := ?_) (h1 := ?_) ?he ?_  | (refine DrP.put (d := ?_) (op := ?_) (t := ?_) (p := ?_) (a := ?_) (v := ?_) (h1 := ?_) ?ho ?hd ?he ?_; (case ho => rfl)) | (refine DrP.eff (op := ?_) (t := ?_) (p := ?_) (a := ?_) (v := ?_) (h1 := ?_) ?ho ?he ?_; (case ho => rfl)) | refine DGuardP.yes (v := ?_) (h1 := ?_) ?he ?_); (try case hd => rfl); (case he => intro run; ((try simp only [evOp, evA, val, vals, oval, parts, get_set, get_nil, ofArgs, ofValue, binOpE, arith, ilt, convertE, unOpE, builtinE, callV, List.nil_append, List.append_nil, Option.bind_some, Option.map_some, Nat.reduceEqDiff, reduceIte, Bool.not_true, Bool.not_false, List.getElem?_cons_zero, List.getElem?_cons_succ, List.getElem?_toArray, Array.toList, List.mapM_cons, List.mapM_nil, Option.pure_def, Option.bind_eq_bind, LV.cells, putNew_eq, hnext_empty, fa32_0, fa32_1, fa32_2, l0, l1, l2, ln, hne, c0, b1, c2, b3]) <;> exact rfl)))  | ((first | refine OpsP.guard (x := ?_) (b := ?_) ?hj ?hx ?hd ?_ | (refine DrP.guard (d := ?_) (op := ?_) (t := ?_) (p := ?_) (a := ?_) (j := ?_) (w := ?_) (x := ?_) (b := ?_) ?ho ?hj ?hx ?hd ?_; (case ho => rfl)) | refine EvP.condB (c := ?_) ?hx ?_); (try case hj => rfl); (case hx => ((try simp only [val, get_set, get_nil, ofArgs, ofValue, Nat.reduceEqDiff, reduceIte, Option.map_some, LV.cells, putNew_eq, hnext_empty, fa32_0, fa32_1, fa32_2, l0, l1, l2, ln, hne, c0, b1, c2, b3]) <;> exact rfl)); (try case hd => rfl)))
          refine EvP.loop (fun m tm h => h = (Heap.empty.new (.row [.str nm, .int .u8 (.ofNat fl), cd] 0 0)).2 ∧ tm.get 1 = .ptr 0 0 0 ∧ tm.get 3 = .fn 90 [] [] ∧ tm.get 27 = .int .i64 (.ofNat nm.length) ∧
            ∃ i, m = nm.length - i ∧ i ≤ nm.length ∧ tm.get 28 = .int .i64 (.ofNat i) ∧ (nm.drop i).all letB = nm.all letB) nm.length ?_ ?_
          · refine ⟨rfl, ?_, ?_, ?_, 0, rfl, by omega, ?_, rfl⟩
            · exact (by (try simp only [val, get_set, get_nil, ofArgs, ofValue, Nat.reduceEqDiff, reduceIte, Option.map_some]) <;> exact rfl)
            · exact (by (try simp only [val, get_set, get_nil, ofArgs, ofValue, Nat.reduceEqDiff, reduceIte, Option.map_some]) <;> exact rfl)
            · exact (by (try simp only [val, get_set, get_nil, ofArgs, ofValue, Nat.reduceEqDiff, reduceIte, Option.map_some]) <;> exact rfl)
            · exact (by (try simp only [val, get_set, get_nil, ofArgs, ofValue, Nat.reduceEqDiff, reduceIte, Option.map_some]) <;> exact rfl)
          · rintro m tm h ⟨rfl, h1, h3, h27, i, rfl, hi, h28, hall⟩
            by_cases hlt : i < nm.length
            · have f1 : Nat.blt i nm.length = true := by rw [blt_eq]; simp; omega
              have da : nm.drop i = nm[i] :: nm.drop (i + 1) := List.drop_eq_getElem_cons hlt
              have chk_ : True := by simp only [LV.cells, putNew_eq, hnext_empty, fa32_0, l0, ln, h1, h3, h27, h28, f1, Tryz.underlying9, indexOp, asNat?, da, call13_37]
              clear chk_
              repeat (first | refine EvP.seq ?_ | refine EvP.region ?_ | refine OpsP.nil ?_ | refine GuardP.no ?_ | refine DGuardP.no ?_ | refine DrP.nil ?_ | refine CondP.t ?_ | refine CondP.f ?_ | refine EvP.ret ?_ | refine EvP.skip ?_ | refine EvP.exit ?_ | refine EvP.block ?_ | refine EvP.scope ?_  | ((first | refine OpsP.put (v := ?_) (h1 := ?_) ?hd ?he ?_ | refine OpsP.eff (v := ?_) (h1 := ?_) ?he ?_ | refine GuardP.yes (v := ?_) (h1 := ?_) ?he ?_  | (refine DrP.put (d := ?_) (op := ?_) (t := ?_) (p := ?_) (a := ?_) (v := ?_) (h1 := ?_) ?ho ?hd ?he ?_; (case ho => rfl)) | (refine DrP.eff (op := ?_) (t := ?_) (p := ?_) (a := ?_) (v := ?_) (h1 := ?_) ?ho ?he ?_; (case ho => rfl)) | refine DGuardP.yes (v := ?_) (h1 := ?_) ?he ?_); (try case hd => rfl); (case he => intro run; ((try simp only [evOp, evA, val, vals, oval, parts, get_set, get_nil, ofArgs, ofValue, binOpE, arith, ilt, convertE, unOpE, builtinE, callV, List.nil_append, List.append_nil, Option.bind_some, Option.map_some, Nat.reduceEqDiff, reduceIte, Bool.not_true, Bool.not_false, List.getElem?_cons_zero, List.getElem?_cons_succ, List.getElem?_toArray, Array.toList, List.mapM_cons, List.mapM_nil, Option.pure_def, Option.bind_eq_bind, LV.cells, putNew_eq, hnext_empty, fa32_0, l0, ln, h1, h3, h27, h28, f1, Tryz.underlying9, indexOp, asNat?, da, call13_37]) <;> exact rfl)))  | ((first | refine OpsP.guard (x := ?_) (b := ?_) ?hj ?hx ?hd ?_ | (refine DrP.guard (d := ?_) (op := ?_) (t := ?_) (p := ?_) (a := ?_) (j := ?_) (w := ?_) (x := ?_) (b := ?_) ?ho ?hj ?hx ?hd ?_; (case ho => rfl)) | refine EvP.condB (c := ?_) ?hx ?_); (try case hj => rfl); (case hx => ((try simp only [val, get_set, get_nil, ofArgs, ofValue, Nat.reduceEqDiff, reduceIte, Option.map_some, LV.cells, putNew_eq, hnext_empty, fa32_0, l0, ln, h1, h3, h27, h28, f1, Tryz.underlying9, indexOp, asNat?, da, call13_37]) <;> exact rfl)); (try case hd => rfl)))
              cases hlb : letB nm[i] with
              | false =>
                have chk_ : True := by simp only [h1]
                clear chk_
                repeat (first | refine EvP.seq ?_ | refine EvP.region ?_ | refine OpsP.nil ?_ | refine GuardP.no ?_ | refine DGuardP.no ?_ | refine DrP.nil ?_ | refine CondP.t ?_ | refine CondP.f ?_ | refine EvP.ret ?_ | refine EvP.skip ?_ | refine EvP.exit ?_ | refine EvP.block ?_ | refine EvP.scope ?_  | ((first | refine OpsP.put (v := ?_) (h1 := ?_) ?hd ?he ?_ | refine OpsP.eff (v := ?_) (h1 := ?_) ?he ?_ | refine GuardP.yes (v := ?_) (h1 := ?_) ?he ?_  | (refine DrP.put (d := ?_) (op := ?_) (t := ?_) (p := ?_) (a := ?_) (v := ?_) (h1 := ?_) ?ho ?hd ?he ?_; (case ho => rfl)) | (refine DrP.eff (op := ?_) (t := ?_) (p := ?_) (a := ?_) (v := ?_) (h1 := ?_) ?ho ?he ?_; (case ho => rfl)) | refine DGuardP.yes (v := ?_) (h1 := ?_) ?he ?_); (try case hd => rfl); (case he => intro run; ((try simp only [evOp, evA, val, vals, oval, parts, get_set, get_nil, ofArgs, ofValue, binOpE, arith, ilt, convertE, unOpE, builtinE, lenE, callV, List.nil_append, List.append_nil, Option.bind_some, Option.map_some, Nat.reduceEqDiff, reduceIte, Bool.not_true, Bool.not_false, List.getElem?_cons_zero, List.getElem?_cons_succ, List.getElem?_toArray, Array.toList, List.mapM_cons, List.mapM_nil, Option.pure_def, Option.bind_eq_bind, h1]) <;> exact rfl)))  | ((first | refine OpsP.guard (x := ?_) (b := ?_) ?hj ?hx ?hd ?_ | (refine DrP.guard (d := ?_) (op := ?_) (t := ?_) (p := ?_) (a := ?_) (j := ?_) (w := ?_) (x := ?_) (b := ?_) ?ho ?hj ?hx ?hd ?_; (case ho => rfl)) | refine EvP.condB (c := ?_) ?hx ?_); (try case hj => rfl); (case hx => ((try simp only [val, get_set, get_nil, ofArgs, ofValue, Nat.reduceEqDiff, reduceIte, Option.map_some, h1]) <;> exact rfl)); (try case hd => rfl)))
                refine ⟨_, rfl, ?_⟩
                simp only [oneOf, get_set, Nat.reduceEqDiff, reduceIte, rightW, b0, b1, b2, b3, Bool.not_true, Bool.not_false, Bool.true_and]
                rw [← hall, da, List.all_cons, hlb, Bool.false_and]
              | true =>
                have chk_ : True := by simp only [h1, h28]
                clear chk_
                repeat (first | refine EvP.seq ?_ | refine EvP.region ?_ | refine OpsP.nil ?_ | refine GuardP.no ?_ | refine DGuardP.no ?_ | refine DrP.nil ?_ | refine CondP.t ?_ | refine CondP.f ?_ | refine EvP.ret ?_ | refine EvP.skip ?_ | refine EvP.exit ?_ | refine EvP.block ?_ | refine EvP.scope ?_  | ((first | refine OpsP.put (v := ?_) (h1 := ?_) ?hd ?he ?_ | refine OpsP.eff (v := ?_) (h1 := ?_) ?he ?_ | refine GuardP.yes (v := ?_) (h1 := ?_) ?he ?_  | (refine DrP.put (d := ?_) (op := ?_) (t := ?_) (p := ?_) (a := ?_) (v := ?_) (h1 := ?_) ?ho ?hd ?he ?_; (case ho => rfl)) | (refine DrP.eff (op := ?_) (t := ?_) (p := ?_) (a := ?_) (v := ?_) (h1 := ?_) ?ho ?he ?_; (case ho => rfl)) | refine DGuardP.yes (v := ?_) (h1 := ?_) ?he ?_); (try case hd => rfl); (case he => intro run; ((try simp only [evOp, evA, val, vals, oval, parts, get_set, get_nil, ofArgs, ofValue, binOpE, arith, ilt, convertE, unOpE, builtinE, lenE, callV, List.nil_append, List.append_nil, Option.bind_some, Option.map_some, Nat.reduceEqDiff, reduceIte, Bool.not_true, Bool.not_false, List.getElem?_cons_zero, List.getElem?_cons_succ, List.getElem?_toArray, Array.toList, List.mapM_cons, List.mapM_nil, Option.pure_def, Option.bind_eq_bind, h1, h28]) <;> exact rfl)))  | ((first | refine OpsP.guard (x := ?_) (b := ?_) ?hj ?hx ?hd ?_ | (refine DrP.guard (d := ?_) (op := ?_) (t := ?_) (p := ?_) (a := ?_) (j := ?_) (w := ?_) (x := ?_) (b := ?_) ?ho ?hj ?hx ?hd ?_; (case ho => rfl)) | refine EvP.condB (c := ?_) ?hx ?_); (try case hj => rfl); (case hx => ((try simp only [val, get_set, get_nil, ofArgs, ofValue, Nat.reduceEqDiff, reduceIte, Option.map_some, h1, h28]) <;> exact rfl)); (try case hd => rfl)))
                refine ⟨nm.length - (i + 1), by omega, rfl, ?_, ?_, ?_, i + 1, rfl, by omega, ?_, ?_⟩
                · exact (by (try simp only [val, get_set, get_nil, ofArgs, ofValue, Nat.reduceEqDiff, reduceIte, Option.map_some, h1]) <;> exact rfl)
                · exact (by (try simp only [val, get_set, get_nil, ofArgs, ofValue, Nat.reduceEqDiff, reduceIte, Option.map_some, h3]) <;> exact rfl)
                · exact (by (try simp only [val, get_set, get_nil, ofArgs, ofValue, Nat.reduceEqDiff, reduceIte, Option.map_some, h27]) <;> exact rfl)
                · simp only [get_set, Nat.reduceEqDiff, reduceIte]
                  rw [show Int.ofNat i + 1 = Int.ofNat (i + 1) from rfl, wrap_nat .i64 (i + 1) (by simp only [half]; omega)]
                · rw [← hall, da, List.all_cons, hlb, Bool.true_and]
            · have f1 : Nat.blt i nm.length = false := by rw [blt_eq]; simp; omega
              have chk_ : True := by simp only [h27, h28, f1]
              clear chk_
              repeat (first | refine EvP.seq ?_ | refine EvP.region ?_ | refine OpsP.nil ?_ | refine GuardP.no ?_ | refine DGuardP.no ?_ | refine DrP.nil ?_ | refine CondP.t ?_ | refine CondP.f ?_ | refine EvP.ret ?_ | refine EvP.skip ?_ | refine EvP.exit ?_ | refine EvP.block ?_ | refine EvP.scope ?_  | ((first | refine OpsP.put (v := ?_) (h1 := ?_) ?hd ?he ?_ | refine OpsP.eff (v := ?_) (h1 := ?_) ?he ?_ | refine GuardP.yes (v := ?_) (h1 := ?_) ?he ?_  | (refine DrP.put (d := ?_) (op := ?_) (t := ?_) (p := ?_) (a := ?_) (v := ?_) (h1 := ?_) ?ho ?hd ?he ?_; (case ho => rfl)) | (refine DrP.eff (op := ?_) (t := ?_) (p := ?_) (a := ?_) (v := ?_) (h1 := ?_) ?ho ?he ?_; (case ho => rfl)) | refine DGuardP.yes (v := ?_) (h1 := ?_) ?he ?_); (try case hd => rfl); (case he => intro run; ((try simp only [evOp, evA, val, vals, oval, parts, get_set, get_nil, ofArgs, ofValue, binOpE, arith, ilt, convertE, unOpE, builtinE, lenE, callV, List.nil_append, List.append_nil, Option.bind_some, Option.map_some, Nat.reduceEqDiff, reduceIte, Bool.not_true, Bool.not_false, List.getElem?_cons_zero, List.getElem?_cons_succ, List.getElem?_toArray, Array.toList, List.mapM_cons, List.mapM_nil, Option.pure_def, Option.bind_eq_bind, h27, h28, f1]) <;> exact rfl)))  | ((first | refine OpsP.guard (x := ?_) (b := ?_) ?hj ?hx ?hd ?_ | (refine DrP.guard (d := ?_) (op := ?_) (t := ?_) (p := ?_) (a := ?_) (j := ?_) (w := ?_) (x := ?_) (b := ?_) ?ho ?hj ?hx ?hd ?_; (case ho => rfl)) | refine EvP.condB (c := ?_) ?hx ?_); (try case hj => rfl); (case hx => ((try simp only [val, get_set, get_nil, ofArgs, ofValue, Nat.reduceEqDiff, reduceIte, Option.map_some, h27, h28, f1]) <;> exact rfl)); (try case hd => rfl)))
              refine ⟨_, rfl, ?_⟩
              simp only [oneOf, get_set, Nat.reduceEqDiff, reduceIte, rightW, b0, b1, b2, b3, Bool.not_true, Bool.not_false, Bool.true_and]
              rw [← hall, List.drop_eq_nil_of_le (by omega)]
              rfl
end
end Go.Ev

namespace Go.Ev
noncomputable section
open Go.Proofs
set_option linter.unusedSimpArgs false
set_option linter.unusedVariables false
set_option maxRecDepth 10000
set_option maxHeartbeats 4000000
def strOk (s : List Nat) : Prop := (∀ x ∈ s, x < 256) ∧ s.length < 2 ^ 62
instance (s : List Nat) : Decidable (strOk s) := by unfold strOk; infer_instance
def codeLen : LV → Option Nat
  | .nils => some 0
  | .vs _ k => some k
  | _ => none
def fRight : Pure
  | [.agg [.str nm, .int .u8 (.ofNat fl), cd]] => (codeLen cd).bind fun k => if strOk nm then some (none, fun _ => .bool (rightW nm fl k)) else none
  | _ => none
theorem len22 (cd : LV) (k : Nat) (hk : codeLen cd = some k) (h : Heap) : lenE Tryz.prog 29 cd h = some (.int .i64 (.ofNat k)) := by
  have hu : ∃ e, Tryz.prog.underlying 29 = some (.slice e) := ⟨32, by kernel_rfl⟩
  obtain ⟨e, hu⟩ := hu
  cases cd <;> simp only [codeLen] at hk <;> cases hk <;> simp only [lenE, hu, lenOf?, Option.map_some]
theorem right_ok : PureOk Tryz.prog ov13 36 fRight := pureOk_of fun vs p hp => by
  unfold fRight at hp
  split at hp
  · rename_i nm fl cd
    obtain ⟨k, hk, hp⟩ := bnd hp
    split at hp
    · rename_i hc
      cases hp
      obtain ⟨r, h1, k1, rfl⟩ := right_body nm fl k cd hc.2 (by cases cd <;> simp only [codeLen] at hk <;> cases hk <;> rfl) (len22 cd k hk)
      exact ⟨_, h1, k1, rfl⟩
    · cases hp
  · cases hp
def ov14 : Ov := ov13.with 36 fRight
theorem ov14_ok : OvOk Tryz.prog ov14 := Ov.with_ok prog_ok ov13_ok right_ok
end
end Go.Ev

namespace Go.Ev
noncomputable section
open Go.Proofs
set_option linter.unusedSimpArgs false
set_option linter.unusedVariables false
set_option maxRecDepth 10000
def ov16 : Ov := ov14
theorem ov16_ok : OvOk Tryz.prog ov16 := ov14_ok
theorem call16_13 (run : Run) (h : Heap) (n : Nat) : callE Tryz.prog ov16 run 91 [.int .u32 (.ofNat n)] h = some (getN n, h) := rfl
set_option maxHeartbeats 4000000
def noR : Row := (0, [], 0, 0, 0, false, false)
def rowOfTab (i : Nat) : Row := tab.getD i noR
theorem rowAt_eq (i : Nat) (hi : i < 113) : rowAt i = rowLV (rowOfTab i) := by
  have key : ∀ i, i < 113 → lvEq 3 (.agg (rowAt i)) (.agg (rowLV (rowOfTab i))) = true := by decide +kernel
  have := lvEq_eq _ _ _ (key i hi)
  injection this
theorem names_ok : ∀ i, i < 113 → ((rowOfTab i).2.1.all (· < 256)) = true ∧ (rowOfTab i).2.1.length < 2 ^ 62 := by decide +kernel
end
end Go.Ev

namespace Go.Ev
noncomputable section
open Go.Proofs
set_option linter.unusedSimpArgs false
set_option linter.unusedVariables false
set_option maxRecDepth 10000
theorem getN_of (n i : Nat) (h : spotN n = .ofNat i) : getN n = .tuple [.agg (rowAt i), .bool true] := by
  unfold getN
  rw [h, if_pos (by exact Int.natCast_nonneg i)]
  rfl
end
end Go.Ev

namespace Go.Ev
noncomputable section
open Go.Proofs
set_option linter.unusedSimpArgs false
set_option linter.unusedVariables false
set_option maxRecDepth 10000
set_option maxHeartbeats 8000000
theorem fa39_0 (b g o : Nat) : fieldAddrOp Tryz.prog 38 (.ptr b g o) 0 = some (.ptr b g (o + 0)) := by kernel_rfl
theorem fa39_1 (b g o : Nat) : fieldAddrOp Tryz.prog 38 (.ptr b g o) 1 = some (.ptr b g (o + 1)) := by kernel_rfl
theorem fa39_2 (b g o : Nat) : fieldAddrOp Tryz.prog 38 (.ptr b g o) 2 = some (.ptr b g (o + 2)) := by kernel_rfl
theorem fa39_3 (b g o : Nat) : fieldAddrOp Tryz.prog 38 (.ptr b g o) 3 = some (.ptr b g (o + 3)) := by kernel_rfl
theorem fa39_4 (b g o : Nat) : fieldAddrOp Tryz.prog 38 (.ptr b g o) 4 = some (.ptr b g (o + 4)) := by kernel_rfl
theorem fa39_5 (b g o : Nat) : fieldAddrOp Tryz.prog 38 (.ptr b g o) 5 = some (.ptr b g (o + 5)) := by kernel_rfl
theorem fa39_6 (b g o : Nat) : fieldAddrOp Tryz.prog 38 (.ptr b g o) 6 = some (.ptr b g (o + 6)) := by kernel_rfl
theorem agg36 : isAggB Tryz.prog 32 = some false := by kernel_rfl
theorem agg4 : isAggB Tryz.prog 4 = some false := by kernel_rfl
theorem agg3 : isAggB Tryz.prog 3 = some false := by kernel_rfl
theorem ia43 (b g i n : Nat) (hi : i < n) (c : Option Nat) : indexAddrOp Tryz.prog 71 (.slice b g 0 n c 7) (.int .i64 (.ofNat i)) = some (.ptr b g (i * 7)) := by
  have hu : Tryz.prog.underlying 71 = some (.slice 38) := by kernel_rfl
  have h1 : Nat.blt i n = true := by rw [blt_eq]; simp [hi]
  simp only [indexAddrOp, asNat?, hu, Option.bind_some, sz39, h1, Nat.beq, Bool.and_self, Nat.zero_add]
/-- What stands at a place of the row of all rows. -/
theorem ld_tab {h : Heap} (hh : h.get 0 = some (.row tabCells 112 7)) (i : Nat) (hi : i < 113) : loadAt Tryz.prog 38 (.ptr 0 112 (i * 7)) h = some (.agg (rowAt i)) := by
  have e2 : Nat.ble (i * 7 + 7) tabCells.length = true := by rw [ble_eq, tab_len]; simp; omega
  simp only [loadAt, agg39, sz39, Option.bind_some, readN, hh, isHi, Nat.beq, e2, Bool.and_self, Option.map_some, rowAt]
theorem ld_num {h : Heap} (hh : h.get 0 = some (.row tabCells 112 7)) (i : Nat) (hi : i < 113) : loadAt Tryz.prog 32 (.ptr 0 112 (i * 7 + 0)) h = some (.int .u32 (.ofNat (rowOfTab i).1)) := by
  have e2 : Nat.ble (i * 7 + 0 + 1) tabCells.length = true := by rw [ble_eq, tab_len]; simp; omega
  have hr : ((tabCells.drop (i * 7)).take 1) = [.int .u32 (.ofNat (rowOfTab i).1)] := by
    have h1 : (rowAt i).take 1 = [.int .u32 (.ofNat (rowOfTab i).1)] := by rw [rowAt_eq i hi]; rfl
    rw [← h1, rowAt, List.take_take]
    rfl
  simp only [loadAt, agg36, readN, hh, isHi, Nat.beq, e2, Bool.and_self, Nat.add_zero, hr, Option.bind_some, List.head?]
noncomputable def sameRow (i : Nat) : Bool := eqMay Tryz.prog 38 (.agg (rowAt i)) && (match eqIn Tryz.prog 20 38 (.agg (rowAt i)) (.agg (rowAt i)) with | some true => true | _ => false)
theorem same_rows : ∀ i, i < 113 → sameRow i = true := by decide +kernel
theorem eq39 (i : Nat) (hi : i < 113) : eqMay Tryz.prog 38 (.agg (rowAt i)) = true ∧ eqIn Tryz.prog 20 38 (.agg (rowAt i)) (.agg (rowAt i)) = some true := by
  have h := same_rows i hi
  unfold sameRow at h
  rw [Bool.and_eq_true] at h
  refine ⟨h.1, ?_⟩
  have h := h.2
  split at h
  · assumption
  · cases h
end
end Go.Ev

namespace Go.Ev
noncomputable section
open Go.Proofs
set_option linter.unusedSimpArgs false
set_option linter.unusedVariables false
set_option maxRecDepth 10000
set_option maxHeartbeats 2000000
/-! prim.long -/
def u32s (cs : List Nat) : List LV := cs.map fun x => .int .u32 (.ofNat x)
def natOf : LV → Option Nat
  | .int .u32 (.ofNat x) => some x
  | _ => none
def codeOf : LV → Option (List Nat)
  | .nils => some []
  | .vs cells n => if cells.length = n ∧ n < 2 ^ 40 then cells.mapM natOf else none
  | _ => none
theorem mapM_nat : ∀ (cells : List LV) (cs : List Nat), cells.mapM natOf = some cs → cells = u32s cs
  | [], cs, h => by simp at h; subst h; rfl
  | c :: cells, cs, h => by
    simp only [List.mapM_cons, Option.pure_def, Option.bind_eq_bind] at h
    obtain ⟨x, h1, h⟩ := bnd h
    obtain ⟨xs, h2, h⟩ := bnd h
    cases h
    have hc : c = .int .u32 (.ofNat x) := by
      unfold natOf at h1
      split at h1
      · cases h1; rfl
      · cases h1
    rw [hc, mapM_nat cells xs h2]
    rfl
theorem codeOf_shape {cd : LV} {cs : List Nat} (h : codeOf cd = some cs) : (cd = .nils ∧ cs = []) ∨ cd = .vs (u32s cs) cs.length := by
  unfold codeOf at h
  split at h
  · cases h; exact .inl ⟨rfl, rfl⟩
  · rename_i cells n
    split at h
    · rename_i hn
      have := mapM_nat cells cs h
      right
      rw [← hn.1, this]
      simp [u32s]
    · cases h
  · cases h
theorem codeOf_len {cd : LV} {cs : List Nat} (h : codeOf cd = some cs) : cs.length < 2 ^ 40 := by
  unfold codeOf at h
  split at h
  · cases h; decide
  · rename_i cells n
    split at h
    · rename_i hn
      have := mapM_nat cells cs h
      rw [← hn.1, this] at hn
      simpa [u32s] using hn.2
    · cases h
  · cases h
theorem under22 : Tryz.prog.underlying 29 = some (.slice 32) := by kernel_rfl
theorem sz36 : szOf Tryz.prog 32 = some 1 := by kernel_rfl
theorem code_len {cd : LV} {cs : List Nat} (h : codeOf cd = some cs) (hp : Heap) : lenE Tryz.prog 29 cd hp = some (.int .i64 (.ofNat cs.length)) := by
  rcases codeOf_shape h with ⟨rfl, rfl⟩ | rfl
  · simp only [lenE, under22, lenOf?, Option.map_some]; rfl
  · simp only [lenE, under22, lenOf?, Option.map_some]
theorem code_at {cd : LV} {cs : List Nat} (h : codeOf cd = some cs) (i : Nat) (hi : i < cs.length) :
    ∃ p, indexAddrOp Tryz.prog 29 cd (.int .i64 (.ofNat i)) = some p ∧ ∀ hp, loadAt Tryz.prog 32 p hp = some (.int .u32 (.ofNat cs[i])) := by
  rcases codeOf_shape h with ⟨rfl, rfl⟩ | rfl
  · simp at hi
  · refine ⟨.vptr ((u32s cs).drop (i * 1)), ?_, fun hp => ?_⟩
    · have h1 : Nat.blt i cs.length = true := by rw [blt_eq]; simp [hi]
      have h2 : Nat.ble (i * 1) (u32s cs).length = true := by rw [ble_eq]; simp [u32s]; omega
      simp only [indexAddrOp, asNat?, Option.bind_some, under22, sz36, h1, h2, Bool.and_self]
    · simp only [loadAt, agg36, Nat.mul_one]
      rw [List.head?_drop]
      simp [u32s, List.getElem?_eq_getElem hi]
/-- How many cells the first instruction of a code has. -/
def insN : List Nat → Nat
  | [] => 0
  | x :: r => if 256 ≤ x then 1 else
    match spotN x with
    | .negSucc _ => 0
    | .ofNat j =>
      if r.length < (rowOfTab j).2.2.2.2.1 then 0
      else match (rowOfTab j).2.2.2.2.2.1 with
        | false => 1 + (rowOfTab j).2.2.2.2.1
        | true => match r with
          | [] => 0
          | y :: _ => if 1000 < y then 0 else if r.length + 1 < 2 + (y + 3) / 4 then 0 else 2 + (y + 3) / 4
def longN (cs : List Nat) : Int → Nat
  | .negSucc _ => 0
  | .ofNat i => insN (cs.drop i)
def fLong : Pure
  | [cd, .int .i64 at_] => (codeOf cd).map fun cs => (none, fun _ => .int .i64 (.ofNat (longN cs at_)))
  | _ => none
def rowChk (i : Nat) : Bool := match rowOfTab i with
  | (_, _, _, _, e, f, g) => Nat.ble e 2 && (!f || (Nat.beq e 1 && !g)) && (!g || Nat.beq e 1)
theorem row_chk : ∀ i, i < 113 → rowChk i = true := by decide +kernel
theorem row_data (i : Nat) (hi : i < 113) : ∃ a nm c d e f g, rowOfTab i = (a, nm, c, d, e, f, g) ∧ rowAt i = [.int .u32 (.ofNat a), .str nm, .int .i64 (.ofNat c), .int .i64 (.ofNat d), .int .i64 (.ofNat e), .bool f, .bool g] ∧
    e ≤ 2 ∧ (f = true → e = 1 ∧ g = false) ∧ (g = true → e = 1) := by
  have h := row_chk i hi
  rw [rowAt_eq i hi]
  unfold rowChk at h
  rcases hr : rowOfTab i with ⟨a, nm, c, d, e, f, g⟩
  rw [hr] at h
  simp only [Bool.and_eq_true, Bool.or_eq_true] at h
  obtain ⟨⟨h1, h2⟩, h3⟩ := h
  refine ⟨a, nm, c, d, e, f, g, rfl, rfl, ?_, ?_, ?_⟩
  · exact Nat.le_of_ble_eq_true h1
  · rintro rfl
    rcases h2 with h2 | ⟨h2, h4⟩
    · cases h2
    · exact ⟨Nat.eq_of_beq_eq_true h2, by simpa using h4⟩
  · rintro rfl
    rcases h3 with h3 | h3
    · cases h3
    · exact Nat.eq_of_beq_eq_true h3
theorem call16_13' (run : Run) (h : Heap) (n : Nat) : callE Tryz.prog ov3 run 91 [.int .u32 (.ofNat n)] h = some (getN n, h) := rfl
theorem long_body (cd : LV) (cs : List Nat) (hcd : codeOf cd = some cs) (at_ : Int) : ∃ r h1, Evc Tryz.prog ov16 89 [cd, .int .i64 at_] Heap.empty (r, h1) ∧ r = .int .i64 (.ofNat (longN cs at_)) := by
  have hL := codeOf_len hcd
  have hlen := code_len hcd
  cases at_ with
  | negSucc k =>
    have w : ilt (.negSucc k) 0 = true := rfl
    refine Evc.of rfl Tryz.func89 rfl rfl ?_
    have chk_ : True := by simp only [w, hlen]
    clear chk_
    repeat (first | refine EvP.seq ?_ | refine EvP.region ?_ | refine OpsP.nil ?_ | refine GuardP.no ?_ | refine DGuardP.no ?_ | refine DrP.nil ?_ | refine CondP.t ?_ | refine CondP.f ?_ | refine EvP.ret ?_ | refine EvP.skip ?_ | refine EvP.exit ?_ | refine EvP.block ?_ | refine EvP.scope ?_  | ((first | refine OpsP.put (v := ?_) (h1 := ?_) ?hd ?he ?_ | refine OpsP.eff (v := ?_) (h1 := ?_) ?he ?_ | refine GuardP.yes (v := ?_) (h1 := ?_) ?he ?_  | (refine DrP.put (d := ?_) (op := ?_) (t := ?_) (p := ?_) (a := ?_) (v := ?_) (h1 := ?_) ?ho ?hd ?he ?_; (case ho => rfl)) | (refine DrP.eff (op := ?_) (t := ?_) (p := ?_) (a := ?_) (v := ?_) (h1 := ?_) ?ho ?he ?_; (case ho => rfl)) | refine DGuardP.yes (v := ?_) (h1 := ?_) ?he ?_); (try case hd => rfl); (case he => intro run; ((try simp only [evOp, evA, val, vals, oval, parts, get_set, get_nil, ofArgs, ofValue, binOpE, arith, convertE, unOpE, builtinE, callV, List.nil_append, List.append_nil, Option.bind_some, Option.map_some, Nat.reduceEqDiff, reduceIte, Bool.not_true, Bool.not_false, List.getElem?_cons_zero, List.getElem?_cons_succ, List.getElem?_toArray, Array.toList, List.mapM_cons, List.mapM_nil, Option.pure_def, Option.bind_eq_bind, w, hlen]) <;> exact rfl)))  | ((first | refine OpsP.guard (x := ?_) (b := ?_) ?hj ?hx ?hd ?_ | (refine DrP.guard (d := ?_) (op := ?_) (t := ?_) (p := ?_) (a := ?_) (j := ?_) (w := ?_) (x := ?_) (b := ?_) ?ho ?hj ?hx ?hd ?_; (case ho => rfl)) | refine EvP.condB (c := ?_) ?hx ?_); (try case hj => rfl); (case hx => ((try simp only [val, get_set, get_nil, ofArgs, ofValue, Nat.reduceEqDiff, reduceIte, Option.map_some, w, hlen]) <;> exact rfl)); (try case hd => rfl)))
    refine ⟨_, rfl, ?_⟩
    simp only [oneOf, get_set, Nat.reduceEqDiff, reduceIte]
    rfl
  | ofNat i =>
    have w : ilt (.ofNat i) 0 = false := rfl
    by_cases hi : i < cs.length
    · have f1 : Nat.blt i cs.length = true := by rw [blt_eq]; simp [hi]
      obtain ⟨p, hp, hl⟩ := code_at hcd i hi
      have hd : cs.drop i = cs[i] :: cs.drop (i + 1) := List.drop_eq_getElem_cons hi
      have hlr : (cs.drop (i + 1)).length = cs.length - i - 1 := by simp; omega
      generalize cs[i] = x at *
      generalize hr : cs.drop (i + 1) = r at *
      by_cases hx : 256 ≤ x
      · have f2 : Nat.blt x 256 = false := by rw [blt_eq]; simp; omega
        refine Evc.of rfl Tryz.func89 rfl rfl ?_
        have chk_ : True := by simp only [w, hlen, f1, f2, hp, hl]
        clear chk_
        repeat (first | refine EvP.seq ?_ | refine EvP.region ?_ | refine OpsP.nil ?_ | refine GuardP.no ?_ | refine DGuardP.no ?_ | refine DrP.nil ?_ | refine CondP.t ?_ | refine CondP.f ?_ | refine EvP.ret ?_ | refine EvP.skip ?_ | refine EvP.exit ?_ | refine EvP.block ?_ | refine EvP.scope ?_  | ((first | refine OpsP.put (v := ?_) (h1 := ?_) ?hd ?he ?_ | refine OpsP.eff (v := ?_) (h1 := ?_) ?he ?_ | refine GuardP.yes (v := ?_) (h1 := ?_) ?he ?_  | (refine DrP.put (d := ?_) (op := ?_) (t := ?_) (p := ?_) (a := ?_) (v := ?_) (h1 := ?_) ?ho ?hd ?he ?_; (case ho => rfl)) | (refine DrP.eff (op := ?_) (t := ?_) (p := ?_) (a := ?_) (v := ?_) (h1 := ?_) ?ho ?he ?_; (case ho => rfl)) | refine DGuardP.yes (v := ?_) (h1 := ?_) ?he ?_); (try case hd => rfl); (case he => intro run; ((try simp only [evOp, evA, val, vals, oval, parts, get_set, get_nil, ofArgs, ofValue, binOpE, arith, ilt, convertE, unOpE, builtinE, callV, List.nil_append, List.append_nil, Option.bind_some, Option.map_some, Nat.reduceEqDiff, reduceIte, Bool.not_true, Bool.not_false, List.getElem?_cons_zero, List.getElem?_cons_succ, List.getElem?_toArray, Array.toList, List.mapM_cons, List.mapM_nil, Option.pure_def, Option.bind_eq_bind, w, hlen, f1, f2, hp, hl]) <;> exact rfl)))  | ((first | refine OpsP.guard (x := ?_) (b := ?_) ?hj ?hx ?hd ?_ | (refine DrP.guard (d := ?_) (op := ?_) (t := ?_) (p := ?_) (a := ?_) (j := ?_) (w := ?_) (x := ?_) (b := ?_) ?ho ?hj ?hx ?hd ?_; (case ho => rfl)) | refine EvP.condB (c := ?_) ?hx ?_); (try case hj => rfl); (case hx => ((try simp only [val, get_set, get_nil, ofArgs, ofValue, Nat.reduceEqDiff, reduceIte, Option.map_some, w, hlen, f1, f2, hp, hl]) <;> exact rfl)); (try case hd => rfl)))
        refine ⟨_, rfl, ?_⟩
        simp only [oneOf, get_set, Nat.reduceEqDiff, reduceIte, longN, hd, insN, if_pos hx]
        rfl
      · have f2 : Nat.blt x 256 = true := by rw [blt_eq]; simp; omega
        rcases spotN_lt x with hs | ⟨j, hj, hs⟩
        · have hg : getN x = .tuple [.agg noRow, .bool false] := by unfold getN; rw [hs]; rfl
          have st : storeAt Tryz.prog 38 (.ptr 0 0 0) (.agg noRow) (Heap.empty.new (.row noRow 0 0)).2 = some ((Heap.empty.new (.row noRow 0 0)).2.set 0 (.row noRow 0 0)) := store_fresh (cs := noRow) (by simp only [hget_new, hnext_empty, reduceIte]) rfl rfl rfl
          have l4 : loadAt Tryz.prog 3 (.ptr 0 0 (0 + 4)) ((Heap.empty.new (.row noRow 0 0)).2.set 0 (.row noRow 0 0)) = some (.int .i64 0) := by simp only [loadAt, agg3, readN, hget_set, reduceIte]; rfl
          refine Evc.of rfl Tryz.func89 rfl rfl ?_
          have chk_ : True := by simp only [w, hlen, f1, f2, hp, hl, call16_13, hg, zero39, LV.cells, putNew_eq, hnext_empty, st, l4, fa39_4]
          clear chk_
          repeat (first | refine EvP.seq ?_ | refine EvP.region ?_ | refine OpsP.nil ?_ | refine GuardP.no ?_ | refine DGuardP.no ?_ | refine DrP.nil ?_ | refine CondP.t ?_ | refine CondP.f ?_ | refine EvP.ret ?_ | refine EvP.skip ?_ | refine EvP.exit ?_ | refine EvP.block ?_ | refine EvP.scope ?_  | ((first | refine OpsP.put (v := ?_) (h1 := ?_) ?hd ?he ?_ | refine OpsP.eff (v := ?_) (h1 := ?_) ?he ?_ | refine GuardP.yes (v := ?_) (h1 := ?_) ?he ?_  | (refine DrP.put (d := ?_) (op := ?_) (t := ?_) (p := ?_) (a := ?_) (v := ?_) (h1 := ?_) ?ho ?hd ?he ?_; (case ho => rfl)) | (refine DrP.eff (op := ?_) (t := ?_) (p := ?_) (a := ?_) (v := ?_) (h1 := ?_) ?ho ?he ?_; (case ho => rfl)) | refine DGuardP.yes (v := ?_) (h1 := ?_) ?he ?_); (try case hd => rfl); (case he => intro run; ((try simp only [evOp, evA, val, vals, oval, parts, get_set, get_nil, ofArgs, ofValue, binOpE, arith, ilt, convertE, unOpE, builtinE, callV, List.nil_append, List.append_nil, Option.bind_some, Option.map_some, Nat.reduceEqDiff, reduceIte, Bool.not_true, Bool.not_false, List.getElem?_cons_zero, List.getElem?_cons_succ, List.getElem?_toArray, Array.toList, List.mapM_cons, List.mapM_nil, Option.pure_def, Option.bind_eq_bind, w, hlen, f1, f2, hp, hl, call16_13, hg, zero39, LV.cells, putNew_eq, hnext_empty, st, l4, fa39_4]) <;> exact rfl)))  | ((first | refine OpsP.guard (x := ?_) (b := ?_) ?hj ?hx ?hd ?_ | (refine DrP.guard (d := ?_) (op := ?_) (t := ?_) (p := ?_) (a := ?_) (j := ?_) (w := ?_) (x := ?_) (b := ?_) ?ho ?hj ?hx ?hd ?_; (case ho => rfl)) | refine EvP.condB (c := ?_) ?hx ?_); (try case hj => rfl); (case hx => ((try simp only [val, get_set, get_nil, ofArgs, ofValue, Nat.reduceEqDiff, reduceIte, Option.map_some, w, hlen, f1, f2, hp, hl, call16_13, hg, zero39, LV.cells, putNew_eq, hnext_empty, st, l4, fa39_4]) <;> exact rfl)); (try case hd => rfl)))
          refine ⟨_, rfl, ?_⟩
          simp only [oneOf, get_set, Nat.reduceEqDiff, reduceIte, longN, hd, insN, if_neg hx, hs]
          rfl
        · obtain ⟨a, nm, c, d, e, f, g, hrow, hcells, he, hf, hg'⟩ := row_data j hj
          have hg : getN x = .tuple [.agg [.int .u32 (.ofNat a), .str nm, .int .i64 (.ofNat c), .int .i64 (.ofNat d), .int .i64 (.ofNat e), .bool f, .bool g], .bool true] := by rw [getN_of x j hs, hcells]
          have st : storeAt Tryz.prog 38 (.ptr 0 0 0) (.agg [.int .u32 (.ofNat a), .str nm, .int .i64 (.ofNat c), .int .i64 (.ofNat d), .int .i64 (.ofNat e), .bool f, .bool g]) (Heap.empty.new (.row noRow 0 0)).2 = some ((Heap.empty.new (.row noRow 0 0)).2.set 0 (.row [.int .u32 (.ofNat a), .str nm, .int .i64 (.ofNat c), .int .i64 (.ofNat d), .int .i64 (.ofNat e), .bool f, .bool g] 0 0)) := store_fresh (cs := noRow) (by simp only [hget_new, hnext_empty, reduceIte]) rfl rfl rfl
          have l4 : loadAt Tryz.prog 3 (.ptr 0 0 (0 + 4)) ((Heap.empty.new (.row noRow 0 0)).2.set 0 (.row [.int .u32 (.ofNat a), .str nm, .int .i64 (.ofNat c), .int .i64 (.ofNat d), .int .i64 (.ofNat e), .bool f, .bool g] 0 0)) = some (.int .i64 (.ofNat e)) := by simp only [loadAt, agg3, readN, hget_set, reduceIte]; rfl
          have l5 : loadAt Tryz.prog 4 (.ptr 0 0 (0 + 5)) ((Heap.empty.new (.row noRow 0 0)).2.set 0 (.row [.int .u32 (.ofNat a), .str nm, .int .i64 (.ofNat c), .int .i64 (.ofNat d), .int .i64 (.ofNat e), .bool f, .bool g] 0 0)) = some (.bool f) := by simp only [loadAt, agg4, readN, hget_set, reduceIte]; rfl
          have w1 : wrap .i64 (1 + Int.ofNat e) = .ofNat (e + 1) := by rw [show (1 : Int) + Int.ofNat e = Int.ofNat (e + 1) by simp; omega, wrap_nat .i64 (e + 1) (by simp only [half]; omega)]
          have w2 : wrap .i64 (Int.ofNat cs.length - Int.ofNat i) = .ofNat (cs.length - i) := by rw [show Int.ofNat cs.length - Int.ofNat i = Int.ofNat (cs.length - i) from nat_sub (b := i) (by omega), wrap_nat .i64 _ (by simp only [half]; omega)]
          by_cases hn : r.length < e
          · have f3 : Nat.blt (cs.length - i) (e + 1) = true := by rw [blt_eq]; simp; omega
            refine Evc.of rfl Tryz.func89 rfl rfl ?_
            have chk_ : True := by simp only [w, hlen, f1, f2, hp, hl, call16_13, hg, zero39, LV.cells, putNew_eq, hnext_empty, st, l4, fa39_4, w1, w2, f3]
            clear chk_
            repeat (first | refine EvP.seq ?_ | refine EvP.region ?_ | refine OpsP.nil ?_ | refine GuardP.no ?_ | refine DGuardP.no ?_ | refine DrP.nil ?_ | refine CondP.t ?_ | refine CondP.f ?_ | refine EvP.ret ?_ | refine EvP.skip ?_ | refine EvP.exit ?_ | refine EvP.block ?_ | refine EvP.scope ?_  | ((first | refine OpsP.put (v := ?_) (h1 := ?_) ?hd ?he ?_ | refine OpsP.eff (v := ?_) (h1 := ?_) ?he ?_ | refine GuardP.yes (v := ?_) (h1 := ?_) ?he ?_  | (refine DrP.put (d := ?_) (op := ?_) (t := ?_) (p := ?_) (a := ?_) (v := ?_) (h1 := ?_) ?ho ?hd ?he ?_; (case ho => rfl)) | (refine DrP.eff (op := ?_) (t := ?_) (p := ?_) (a := ?_) (v := ?_) (h1 := ?_) ?ho ?he ?_; (case ho => rfl)) | refine DGuardP.yes (v := ?_) (h1 := ?_) ?he ?_); (try case hd => rfl); (case he => intro run; ((try simp only [evOp, evA, val, vals, oval, parts, get_set, get_nil, ofArgs, ofValue, binOpE, arith, ilt, convertE, unOpE, builtinE, callV, List.nil_append, List.append_nil, Option.bind_some, Option.map_some, Nat.reduceEqDiff, reduceIte, Bool.not_true, Bool.not_false, List.getElem?_cons_zero, List.getElem?_cons_succ, List.getElem?_toArray, Array.toList, List.mapM_cons, List.mapM_nil, Option.pure_def, Option.bind_eq_bind, w, hlen, f1, f2, hp, hl, call16_13, hg, zero39, LV.cells, putNew_eq, hnext_empty, st, l4, fa39_4, w1, w2, f3]) <;> exact rfl)))  | ((first | refine OpsP.guard (x := ?_) (b := ?_) ?hj ?hx ?hd ?_ | (refine DrP.guard (d := ?_) (op := ?_) (t := ?_) (p := ?_) (a := ?_) (j := ?_) (w := ?_) (x := ?_) (b := ?_) ?ho ?hj ?hx ?hd ?_; (case ho => rfl)) | refine EvP.condB (c := ?_) ?hx ?_); (try case hj => rfl); (case hx => ((try simp only [val, get_set, get_nil, ofArgs, ofValue, Nat.reduceEqDiff, reduceIte, Option.map_some, w, hlen, f1, f2, hp, hl, call16_13, hg, zero39, LV.cells, putNew_eq, hnext_empty, st, l4, fa39_4, w1, w2, f3]) <;> exact rfl)); (try case hd => rfl)))
            refine ⟨_, rfl, ?_⟩
            simp only [oneOf, get_set, Nat.reduceEqDiff, reduceIte, longN, hd, insN, if_neg hx, hs, hrow, if_pos hn]
            rfl
          · have f3 : Nat.blt (cs.length - i) (e + 1) = false := by rw [blt_eq]; simp; omega
            cases f with
            | false =>
              refine Evc.of rfl Tryz.func89 rfl rfl ?_
              have chk_ : True := by simp only [w, hlen, f1, f2, hp, hl, call16_13, hg, zero39, LV.cells, putNew_eq, hnext_empty, st, l4, l5, fa39_4, fa39_5, w1, w2, f3]
              clear chk_
              repeat (first | refine EvP.seq ?_ | refine EvP.region ?_ | refine OpsP.nil ?_ | refine GuardP.no ?_ | refine DGuardP.no ?_ | refine DrP.nil ?_ | refine CondP.t ?_ | refine CondP.f ?_ | refine EvP.ret ?_ | refine EvP.skip ?_ | refine EvP.exit ?_ | refine EvP.block ?_ | refine EvP.scope ?_  | ((first | refine OpsP.put (v := ?_) (h1 := ?_) ?hd ?he ?_ | refine OpsP.eff (v := ?_) (h1 := ?_) ?he ?_ | refine GuardP.yes (v := ?_) (h1 := ?_) ?he ?_  | (refine DrP.put (d := ?_) (op := ?_) (t := ?_) (p := ?_) (a := ?_) (v := ?_) (h1 := ?_) ?ho ?hd ?he ?_; (case ho => rfl)) | (refine DrP.eff (op := ?_) (t := ?_) (p := ?_) (a := ?_) (v := ?_) (h1 := ?_) ?ho ?he ?_; (case ho => rfl)) | refine DGuardP.yes (v := ?_) (h1 := ?_) ?he ?_); (try case hd => rfl); (case he => intro run; ((try simp only [evOp, evA, val, vals, oval, parts, get_set, get_nil, ofArgs, ofValue, binOpE, arith, ilt, convertE, unOpE, builtinE, callV, List.nil_append, List.append_nil, Option.bind_some, Option.map_some, Nat.reduceEqDiff, reduceIte, Bool.not_true, Bool.not_false, List.getElem?_cons_zero, List.getElem?_cons_succ, List.getElem?_toArray, Array.toList, List.mapM_cons, List.mapM_nil, Option.pure_def, Option.bind_eq_bind, w, hlen, f1, f2, hp, hl, call16_13, hg, zero39, LV.cells, putNew_eq, hnext_empty, st, l4, l5, fa39_4, fa39_5, w1, w2, f3]) <;> exact rfl)))  | ((first | refine OpsP.guard (x := ?_) (b := ?_) ?hj ?hx ?hd ?_ | (refine DrP.guard (d := ?_) (op := ?_) (t := ?_) (p := ?_) (a := ?_) (j := ?_) (w := ?_) (x := ?_) (b := ?_) ?ho ?hj ?hx ?hd ?_; (case ho => rfl)) | refine EvP.condB (c := ?_) ?hx ?_); (try case hj => rfl); (case hx => ((try simp only [val, get_set, get_nil, ofArgs, ofValue, Nat.reduceEqDiff, reduceIte, Option.map_some, w, hlen, f1, f2, hp, hl, call16_13, hg, zero39, LV.cells, putNew_eq, hnext_empty, st, l4, l5, fa39_4, fa39_5, w1, w2, f3]) <;> exact rfl)); (try case hd => rfl)))
              refine ⟨_, rfl, ?_⟩
              simp only [oneOf, get_set, Nat.reduceEqDiff, reduceIte, longN, hd, insN, if_neg hx, hs, hrow, if_neg hn]
              rw [Nat.add_comm]
            | true =>
              obtain ⟨rfl, -⟩ := hf rfl
              have hi1 : i + 1 < cs.length := by omega
              obtain ⟨p', hp', hl'⟩ := code_at hcd (i + 1) hi1
              have hd' : r = cs[i + 1] :: cs.drop (i + 1 + 1) := by rw [← hr]; exact List.drop_eq_getElem_cons hi1
              generalize cs[i + 1] = y at *
              have w3 : wrap .i64 (Int.ofNat i + 1) = .ofNat (i + 1) := by rw [show Int.ofNat i + 1 = Int.ofNat (i + 1) from rfl, wrap_nat .i64 (i + 1) (by simp only [half]; omega)]
              by_cases hy : 1000 < y
              · have f4 : Nat.blt 1000 y = true := by rw [blt_eq]; simp [hy]
                refine Evc.of rfl Tryz.func89 rfl rfl ?_
                have chk_ : True := by simp only [w, hlen, f1, f2, hp, hl, call16_13, hg, zero39, LV.cells, putNew_eq, hnext_empty, st, l4, l5, fa39_4, fa39_5, w1, w2, f3, w3, hp', hl', f4]
                clear chk_
                repeat (first | refine EvP.seq ?_ | refine EvP.region ?_ | refine OpsP.nil ?_ | refine GuardP.no ?_ | refine DGuardP.no ?_ | refine DrP.nil ?_ | refine CondP.t ?_ | refine CondP.f ?_ | refine EvP.ret ?_ | refine EvP.skip ?_ | refine EvP.exit ?_ | refine EvP.block ?_ | refine EvP.scope ?_  | ((first | refine OpsP.put (v := ?_) (h1 := ?_) ?hd ?he ?_ | refine OpsP.eff (v := ?_) (h1 := ?_) ?he ?_ | refine GuardP.yes (v := ?_) (h1 := ?_) ?he ?_  | (refine DrP.put (d := ?_) (op := ?_) (t := ?_) (p := ?_) (a := ?_) (v := ?_) (h1 := ?_) ?ho ?hd ?he ?_; (case ho => rfl)) | (refine DrP.eff (op := ?_) (t := ?_) (p := ?_) (a := ?_) (v := ?_) (h1 := ?_) ?ho ?he ?_; (case ho => rfl)) | refine DGuardP.yes (v := ?_) (h1 := ?_) ?he ?_); (try case hd => rfl); (case he => intro run; ((try simp only [evOp, evA, val, vals, oval, parts, get_set, get_nil, ofArgs, ofValue, binOpE, arith, ilt, convertE, unOpE, builtinE, callV, List.nil_append, List.append_nil, Option.bind_some, Option.map_some, Nat.reduceEqDiff, reduceIte, Bool.not_true, Bool.not_false, List.getElem?_cons_zero, List.getElem?_cons_succ, List.getElem?_toArray, Array.toList, List.mapM_cons, List.mapM_nil, Option.pure_def, Option.bind_eq_bind, w, hlen, f1, f2, hp, hl, call16_13, hg, zero39, LV.cells, putNew_eq, hnext_empty, st, l4, l5, fa39_4, fa39_5, w1, w2, f3, w3, hp', hl', f4]) <;> exact rfl)))  | ((first | refine OpsP.guard (x := ?_) (b := ?_) ?hj ?hx ?hd ?_ | (refine DrP.guard (d := ?_) (op := ?_) (t := ?_) (p := ?_) (a := ?_) (j := ?_) (w := ?_) (x := ?_) (b := ?_) ?ho ?hj ?hx ?hd ?_; (case ho => rfl)) | refine EvP.condB (c := ?_) ?hx ?_); (try case hj => rfl); (case hx => ((try simp only [val, get_set, get_nil, ofArgs, ofValue, Nat.reduceEqDiff, reduceIte, Option.map_some, w, hlen, f1, f2, hp, hl, call16_13, hg, zero39, LV.cells, putNew_eq, hnext_empty, st, l4, l5, fa39_4, fa39_5, w1, w2, f3, w3, hp', hl', f4]) <;> exact rfl)); (try case hd => rfl)))
                refine ⟨_, rfl, ?_⟩
                simp only [oneOf, get_set, Nat.reduceEqDiff, reduceIte, longN, hd, insN, if_neg hx, hs, hrow, if_neg hn]
                rw [hd']
                simp only [if_pos hy]
                rfl
              · have f4 : Nat.blt 1000 y = false := by rw [blt_eq]; simp; omega
                have w4 : wrap .i64 (Int.ofNat y) = .ofNat y := wrap_nat .i64 y (by simp only [half]; omega)
                have w5 : wrap .i64 (Int.ofNat y + 4) = .ofNat (y + 4) := by rw [show Int.ofNat y + 4 = Int.ofNat (y + 4) from rfl, wrap_nat .i64 (y + 4) (by simp only [half]; omega)]
                have w6 : wrap .i64 (Int.ofNat (y + 4) - 1) = .ofNat (y + 3) := by rw [show Int.ofNat (y + 4) - 1 = Int.ofNat (y + 3) from nat_sub (b := 1) (by omega), wrap_nat .i64 (y + 3) (by simp only [half]; omega)]
                have w7 : wrap .i64 ((Int.ofNat (y + 3)).tdiv 4) = .ofNat ((y + 3) / 4) := by rw [show (Int.ofNat (y + 3)).tdiv 4 = Int.ofNat ((y + 3) / 4) from rfl, wrap_nat .i64 _ (by simp only [half]; omega)]
                have w8 : wrap .i64 (Int.ofNat (1 + 1) + Int.ofNat ((y + 3) / 4)) = .ofNat (2 + (y + 3) / 4) := by rw [show Int.ofNat (1 + 1) + Int.ofNat ((y + 3) / 4) = Int.ofNat (2 + (y + 3) / 4) from rfl, wrap_nat .i64 _ (by simp only [half]; omega)]
                have q4 : ieq 4 0 = false := rfl
                by_cases hz : r.length + 1 < 2 + (y + 3) / 4
                · have f5 : Nat.blt (cs.length - i) (2 + (y + 3) / 4) = true := by rw [blt_eq]; simp; omega
                  refine Evc.of rfl Tryz.func89 rfl rfl ?_
                  have chk_ : True := by simp only [w, hlen, f1, f2, hp, hl, call16_13, hg, zero39, LV.cells, putNew_eq, hnext_empty, st, l4, l5, fa39_4, fa39_5, w1, w2, f3, w3, hp', hl', f4, w4, w5, w6, w7, w8, q4, f5]
                  clear chk_
                  repeat (first | refine EvP.seq ?_ | refine EvP.region ?_ | refine OpsP.nil ?_ | refine GuardP.no ?_ | refine DGuardP.no ?_ | refine DrP.nil ?_ | refine CondP.t ?_ | refine CondP.f ?_ | refine EvP.ret ?_ | refine EvP.skip ?_ | refine EvP.exit ?_ | refine EvP.block ?_ | refine EvP.scope ?_  | ((first | refine OpsP.put (v := ?_) (h1 := ?_) ?hd ?he ?_ | refine OpsP.eff (v := ?_) (h1 := ?_) ?he ?_ | refine GuardP.yes (v := ?_) (h1 := ?_) ?he ?_  | (refine DrP.put (d := ?_) (op := ?_) (t := ?_) (p := ?_) (a := ?_) (v := ?_) (h1 := ?_) ?ho ?hd ?he ?_; (case ho => rfl)) | (refine DrP.eff (op := ?_) (t := ?_) (p := ?_) (a := ?_) (v := ?_) (h1 := ?_) ?ho ?he ?_; (case ho => rfl)) | refine DGuardP.yes (v := ?_) (h1 := ?_) ?he ?_); (try case hd => rfl); (case he => intro run; ((try simp only [evOp, evA, val, vals, oval, parts, get_set, get_nil, ofArgs, ofValue, binOpE, arith, ilt, convertE, unOpE, builtinE, callV, List.nil_append, List.append_nil, Option.bind_some, Option.map_some, Nat.reduceEqDiff, reduceIte, Bool.not_true, Bool.not_false, List.getElem?_cons_zero, List.getElem?_cons_succ, List.getElem?_toArray, Array.toList, List.mapM_cons, List.mapM_nil, Option.pure_def, Option.bind_eq_bind, w, hlen, f1, f2, hp, hl, call16_13, hg, zero39, LV.cells, putNew_eq, hnext_empty, st, l4, l5, fa39_4, fa39_5, w1, w2, f3, w3, hp', hl', f4, w4, w5, w6, w7, w8, q4, f5]) <;> exact rfl)))  | ((first | refine OpsP.guard (x := ?_) (b := ?_) ?hj ?hx ?hd ?_ | (refine DrP.guard (d := ?_) (op := ?_) (t := ?_) (p := ?_) (a := ?_) (j := ?_) (w := ?_) (x := ?_) (b := ?_) ?ho ?hj ?hx ?hd ?_; (case ho => rfl)) | refine EvP.condB (c := ?_) ?hx ?_); (try case hj => rfl); (case hx => ((try simp only [val, get_set, get_nil, ofArgs, ofValue, Nat.reduceEqDiff, reduceIte, Option.map_some, w, hlen, f1, f2, hp, hl, call16_13, hg, zero39, LV.cells, putNew_eq, hnext_empty, st, l4, l5, fa39_4, fa39_5, w1, w2, f3, w3, hp', hl', f4, w4, w5, w6, w7, w8, q4, f5]) <;> exact rfl)); (try case hd => rfl)))
                  refine ⟨_, rfl, ?_⟩
                  simp only [oneOf, get_set, Nat.reduceEqDiff, reduceIte, longN, hd, insN, if_neg hx, hs, hrow, if_neg hn]
                  rw [hd'] at hz ⊢
                  simp only [if_neg hy, if_pos hz]
                  rfl
                · have f5 : Nat.blt (cs.length - i) (2 + (y + 3) / 4) = false := by rw [blt_eq]; simp; omega
                  refine Evc.of rfl Tryz.func89 rfl rfl ?_
                  have chk_ : True := by simp only [w, hlen, f1, f2, hp, hl, call16_13, hg, zero39, LV.cells, putNew_eq, hnext_empty, st, l4, l5, fa39_4, fa39_5, w1, w2, f3, w3, hp', hl', f4, w4, w5, w6, w7, w8, q4, f5]
                  clear chk_
                  repeat (first | refine EvP.seq ?_ | refine EvP.region ?_ | refine OpsP.nil ?_ | refine GuardP.no ?_ | refine DGuardP.no ?_ | refine DrP.nil ?_ | refine CondP.t ?_ | refine CondP.f ?_ | refine EvP.ret ?_ | refine EvP.skip ?_ | refine EvP.exit ?_ | refine EvP.block ?_ | refine EvP.scope ?_  | ((first | refine OpsP.put (v := ?_) (h1 := ?_) ?hd ?he ?_ | refine OpsP.eff (v := ?_) (h1 := ?_) ?he ?_ | refine GuardP.yes (v := ?_) (h1 := ?_) ?he ?_  | (refine DrP.put (d := ?_) (op := ?_) (t := ?_) (p := ?_) (a := ?_) (v := ?_) (h1 := ?_) ?ho ?hd ?he ?_; (case ho => rfl)) | (refine DrP.eff (op := ?_) (t := ?_) (p := ?_) (a := ?_) (v := ?_) (h1 := ?_) ?ho ?he ?_; (case ho => rfl)) | refine DGuardP.yes (v := ?_) (h1 := ?_) ?he ?_); (try case hd => rfl); (case he => intro run; ((try simp only [evOp, evA, val, vals, oval, parts, get_set, get_nil, ofArgs, ofValue, binOpE, arith, ilt, convertE, unOpE, builtinE, callV, List.nil_append, List.append_nil, Option.bind_some, Option.map_some, Nat.reduceEqDiff, reduceIte, Bool.not_true, Bool.not_false, List.getElem?_cons_zero, List.getElem?_cons_succ, List.getElem?_toArray, Array.toList, List.mapM_cons, List.mapM_nil, Option.pure_def, Option.bind_eq_bind, w, hlen, f1, f2, hp, hl, call16_13, hg, zero39, LV.cells, putNew_eq, hnext_empty, st, l4, l5, fa39_4, fa39_5, w1, w2, f3, w3, hp', hl', f4, w4, w5, w6, w7, w8, q4, f5]) <;> exact rfl)))  | ((first | refine OpsP.guard (x := ?_) (b := ?_) ?hj ?hx ?hd ?_ | (refine DrP.guard (d := ?_) (op := ?_) (t := ?_) (p := ?_) (a := ?_) (j := ?_) (w := ?_) (x := ?_) (b := ?_) ?ho ?hj ?hx ?hd ?_; (case ho => rfl)) | refine EvP.condB (c := ?_) ?hx ?_); (try case hj => rfl); (case hx => ((try simp only [val, get_set, get_nil, ofArgs, ofValue, Nat.reduceEqDiff, reduceIte, Option.map_some, w, hlen, f1, f2, hp, hl, call16_13, hg, zero39, LV.cells, putNew_eq, hnext_empty, st, l4, l5, fa39_4, fa39_5, w1, w2, f3, w3, hp', hl', f4, w4, w5, w6, w7, w8, q4, f5]) <;> exact rfl)); (try case hd => rfl)))
                  refine ⟨_, rfl, ?_⟩
                  simp only [oneOf, get_set, Nat.reduceEqDiff, reduceIte, longN, hd, insN, if_neg hx, hs, hrow, if_neg hn]
                  rw [hd'] at hz ⊢
                  simp only [if_neg hy, if_neg hz]
    · have f1 : Nat.blt i cs.length = false := by rw [blt_eq]; simp; omega
      refine Evc.of rfl Tryz.func89 rfl rfl ?_
      have chk_ : True := by simp only [w, hlen, f1]
      clear chk_
      repeat (first | refine EvP.seq ?_ | refine EvP.region ?_ | refine OpsP.nil ?_ | refine GuardP.no ?_ | refine DGuardP.no ?_ | refine DrP.nil ?_ | refine CondP.t ?_ | refine CondP.f ?_ | refine EvP.ret ?_ | refine EvP.skip ?_ | refine EvP.exit ?_ | refine EvP.block ?_ | refine EvP.scope ?_  | ((first | refine OpsP.put (v := ?_) (h1 := ?_) ?hd ?he ?_ | refine OpsP.eff (v := ?_) (h1 := ?_) ?he ?_ | refine GuardP.yes (v := ?_) (h1 := ?_) ?he ?_  | (refine DrP.put (d := ?_) (op := ?_) (t := ?_) (p := ?_) (a := ?_) (v := ?_) (h1 := ?_) ?ho ?hd ?he ?_; (case ho => rfl)) | (refine DrP.eff (op := ?_) (t := ?_) (p := ?_) (a := ?_) (v := ?_) (h1 := ?_) ?ho ?he ?_; (case ho => rfl)) | refine DGuardP.yes (v := ?_) (h1 := ?_) ?he ?_); (try case hd => rfl); (case he => intro run; ((try simp only [evOp, evA, val, vals, oval, parts, get_set, get_nil, ofArgs, ofValue, binOpE, arith, ilt, convertE, unOpE, builtinE, callV, List.nil_append, List.append_nil, Option.bind_some, Option.map_some, Nat.reduceEqDiff, reduceIte, Bool.not_true, Bool.not_false, List.getElem?_cons_zero, List.getElem?_cons_succ, List.getElem?_toArray, Array.toList, List.mapM_cons, List.mapM_nil, Option.pure_def, Option.bind_eq_bind, w, hlen, f1]) <;> exact rfl)))  | ((first | refine OpsP.guard (x := ?_) (b := ?_) ?hj ?hx ?hd ?_ | (refine DrP.guard (d := ?_) (op := ?_) (t := ?_) (p := ?_) (a := ?_) (j := ?_) (w := ?_) (x := ?_) (b := ?_) ?ho ?hj ?hx ?hd ?_; (case ho => rfl)) | refine EvP.condB (c := ?_) ?hx ?_); (try case hj => rfl); (case hx => ((try simp only [val, get_set, get_nil, ofArgs, ofValue, Nat.reduceEqDiff, reduceIte, Option.map_some, w, hlen, f1]) <;> exact rfl)); (try case hd => rfl)))
      refine ⟨_, rfl, ?_⟩
      simp only [oneOf, get_set, Nat.reduceEqDiff, reduceIte, longN, List.drop_eq_nil_of_le (show cs.length ≤ i by omega), insN]
      rfl
theorem long_ok : PureOk Tryz.prog ov16 89 fLong := pureOk_of fun vs p hp => by
  unfold fLong at hp
  split at hp
  · rename_i cd at_
    obtain ⟨cs, hcd, e⟩ := mp hp
    subst e
    obtain ⟨r, h1, k1, rfl⟩ := long_body cd cs hcd at_
    exact ⟨_, h1, k1, rfl⟩
  · cases hp
def ov17 : Ov := ov16.with 89 fLong
theorem ov17_ok : OvOk Tryz.prog ov17 := Ov.with_ok prog_ok ov16_ok long_ok
end
end Go.Ev

namespace Go.Ev
noncomputable section
open Go.Proofs
set_option linter.unusedSimpArgs false
set_option linter.unusedVariables false
set_option maxRecDepth 10000
set_option maxHeartbeats 2000000
theorem freeze_bare (h : Heap) : ∀ (d : Nat) (v : LV), bareV d v = true → freezeV h d v = some v
  | 0, v, hb => by cases hb
  | d + 1, v, hb => by
    have lists : ∀ (cs : List LV), cs.all (bareV d) = true → cs.mapM (freezeV h d) = some cs := by
      intro cs
      induction cs with
      | nil => intro _; rfl
      | cons c cs ih =>
        intro hc
        rw [List.all_cons, Bool.and_eq_true] at hc
        simp only [List.mapM_cons, freeze_bare h d c hc.1, ih hc.2, Option.pure_def, Option.bind_eq_bind, Option.bind_some]
    unfold bareV at hb
    cases v <;> simp only at hb <;> first | (cases hb; done) | rfl | skip
    case agg cs => show (cs.mapM (freezeV h d)).map LV.agg = _; rw [lists cs hb]; rfl
    case tuple cs => show (cs.mapM (freezeV h d)).map LV.tuple = _; rw [lists cs hb]; rfl
    case iface t u => show (freezeV h d u).map (LV.iface t) = _; rw [freeze_bare h d u hb]; rfl
    case fn f a b =>
      rw [Bool.and_eq_true] at hb
      show ((a.mapM (freezeV h d)).bind fun a => (b.mapM (freezeV h d)).map fun b => LV.fn f a b) = _
      rw [lists a hb.1, Option.bind_some, lists b hb.2]; rfl
theorem mapM_bare (h : Heap) (d : Nat) (cs : List LV) (hc : cs.all (bareV d) = true) : cs.mapM (freezeV h d) = some cs := by
  induction cs with
  | nil => rfl
  | cons c cs ih =>
    rw [List.all_cons, Bool.and_eq_true] at hc
    simp only [List.mapM_cons, freeze_bare h d c hc.1, ih hc.2, Option.pure_def, Option.bind_eq_bind, Option.bind_some]
/-! prim.starts -/
def i64s (l : List Nat) : List LV := l.map fun x => .int .i64 (.ofNat x)
def wlN (m : Nat) : Nat := if m ≤ 1 then 0 else 1
def intsGift (l : List Nat) (w : Bool) : Gift :=
  match l with
  | [] => (none, fun _ => .tuple [.nils, .bool w])
  | x :: l => (some (.row (i64s (x :: l)) l.length (wlN (l.length + 1))), fun id => .tuple [.slice id l.length 0 (l.length + 1) none 1, .bool w])
def startsF : Nat → Nat → List Nat → Option (List Nat)
  | _, _, [] => some []
  | 0, _, _ :: _ => none
  | k + 1, at_, c :: r =>
    match insN (c :: r) with
    | 0 => none
    | n + 1 => (startsF k (at_ + (n + 1)) (r.drop n)).map (at_ :: ·)
def startsN (cs : List Nat) : Option (List Nat) := startsF cs.length 0 cs
def startsGift (cs : List Nat) : Gift := match startsN cs with
  | some l => intsGift l true
  | none => (none, fun _ => .tuple [.nils, .bool false])
def fStarts : Pure
  | [cd] => (codeOf cd).map startsGift
  | _ => none
theorem insN_le (cs : List Nat) : insN cs ≤ cs.length := by
  unfold insN
  split
  · simp
  · rename_i x r
    split
    · simp
    · split
      · simp
      · rename_i j hs
        split
        · simp
        · rename_i hn
          split
          · simp; omega
          · split
            · simp
            · rename_i y r'
              split
              · simp
              · split
                · simp
                · rename_i h; simp at h ⊢; omega
theorem under24 : Tryz.prog.underlying 82 = some (.slice 3) := by kernel_rfl
theorem under3 : Tryz.prog.underlying 3 = some (.int .i64) := by kernel_rfl
theorem sz3 : szOf Tryz.prog 3 = some 1 := by kernel_rfl
theorem bytes3 : bytesOfT Tryz.prog 3 = some 8 := by kernel_rfl
theorem zero3 : zeroLV Tryz.prog 3 = some (.int .i64 0) := by kernel_rfl
theorem bs24 (v : Int) : buildSliceA Tryz.prog 82 1 [(0, .int .i64 v)] = some (.row [.int .i64 v] 0 0, fun b => .slice b 0 0 1 (some 1) 1) := by kernel_rfl
theorem zerosB24 : zerosB Tryz.prog (some 82) = some false := by simp only [zerosB, under24]
/-- One number behind none. -/
theorem app24_nil {h : Heap} {b : Nat} {v : Int} (hb : h.get b = some (.row [.int .i64 v] 0 0)) :
    appendE Tryz.prog 82 (some 82) .nils (.slice b 0 0 1 (some 1) 1) h = some (.slice h.next 0 0 1 none 1, (h.new (.row [.int .i64 v] 0 0)).2) := by
  have hr : readN h b 0 0 (1 * 1) = some [.int .i64 v] := by simp only [readN, hb]; rfl
  have ha : appended Tryz.prog 3 1 false (.slice b 0 0 1 (some 1) 1) h = some (1, [.int .i64 v]) := by
    simp only [appended, lenOf?, viewCells, hr, Option.bind_some]; rfl
  have hc : (!Nat.beq 1 0 && Nat.ble ((0 + 1) * 8) maxBytes && Nat.ble (0 + 1) maxBytes && [LV.int .i64 v].all LV.isCell) = true := by
    simp only [List.all_cons, List.all_nil, LV.isCell, maxBytes]; decide
  simp only [appendE, under24, sz3, bytes3, zerosB24, lenOf?, ha, Option.bind_some, hc, freshRow, zero3, LV.cells]
  rfl
/-- One number behind some. -/
theorem app24_one {h : Heap} {b q g m wl : Nat} {cells : List LV} {v : Int} (hb : h.get b = some (.row [.int .i64 v] 0 0)) (hq : h.get q = some (.row cells g wl)) (hm : cells.length = m) (hl : m + 1 < 2 ^ 42) :
    appendE Tryz.prog 82 (some 82) (.slice q g 0 m none 1) (.slice b 0 0 1 (some 1) 1) h =
      some (.slice q (g + 1) 0 (m + 1) none 1, h.set q (.row (cells ++ [.int .i64 v]) (g + 1) (Nat.min (match Nat.beq g 0 with | true => m | false => wl) m))) := by
  subst hm
  have hr : readN h b 0 0 (1 * 1) = some [.int .i64 v] := by simp only [readN, hb]; rfl
  have ha : appended Tryz.prog 3 1 false (.slice b 0 0 1 (some 1) 1) h = some (1, [.int .i64 v]) := by
    simp only [appended, lenOf?, viewCells, hr, Option.bind_some]; rfl
  have hc : (!Nat.beq 1 0 && Nat.ble ((cells.length + 1) * 8) maxBytes && Nat.ble (cells.length + 1) maxBytes && [LV.int .i64 v].all LV.isCell) = true := by
    have h1 : Nat.ble ((cells.length + 1) * 8) maxBytes = true := by rw [ble_eq, decide_eq_true_iff]; show _ ≤ 70368744177664; omega
    have h2 : Nat.ble (cells.length + 1) maxBytes = true := by rw [ble_eq, decide_eq_true_iff]; show _ ≤ 70368744177664; omega
    rw [h1, h2]; rfl
  have hx : (Nat.beq g g && Nat.ble (0 + (cells.length + 1) * 1) cells.length) = false := by
    have : Nat.ble (0 + (cells.length + 1) * 1) cells.length = false := by rw [ble_eq, decide_eq_false_iff_not]; omega
    rw [this, Bool.and_false]
  have hr2 : readN h q g 0 (cells.length * 1) = some cells := by
    have h1 : Nat.ble (0 + cells.length * 1) cells.length = true := by rw [ble_eq, decide_eq_true_iff]; omega
    have h2 : Nat.beq g g = true := by rw [beq_eq]; simp
    simp only [readN, hq, isHi, h2, h1, Bool.and_self, List.drop_zero]
    rw [List.take_of_length_le (by omega)]
  have ht : cells.take (0 + cells.length * 1) = cells := List.take_of_length_le (by omega)
  have hw : (0 + cells.length * 1) = cells.length := by omega
  have h11 : Nat.beq 1 1 = true := rfl
  simp only [appendE, under24, sz3, bytes3, zerosB24, lenOf?, ha, Option.bind_some, hc, hq, hx, hr2, zero3, LV.cells, h11, ht, hw, List.length_singleton, List.take_length]
  cases Nat.beq g 0 <;> rfl
/-- What is called by value. -/
theorem pure1 {F : Pure} {h : Heap} {a a' : LV} (ha : freezeV h 10 a = some a') : pureCall F [a] h = (F [a']).map (putGift h) := by
  simp only [pureCall, List.mapM_cons, List.mapM_nil, ha, Option.pure_def, Option.bind_eq_bind, Option.bind_some]
theorem pure2 {F : Pure} {h : Heap} {a a' b b' : LV} (ha : freezeV h 10 a = some a') (hb : freezeV h 10 b = some b') : pureCall F [a, b] h = (F [a', b']).map (putGift h) := by
  simp only [pureCall, List.mapM_cons, List.mapM_nil, ha, hb, Option.pure_def, Option.bind_eq_bind, Option.bind_some]
/-- A value that is a code, in a heap. -/
def CodeV (h : Heap) (cd : LV) (cs : List Nat) : Prop := ∃ v, freezeV h 10 cd = some v ∧ codeOf v = some cs
theorem u32s_bare (cs : List Nat) (d : Nat) : (u32s cs).all (bareV (d + 1)) = true := by
  rw [List.all_eq_true]
  intro x hx
  obtain ⟨n, _, rfl⟩ := List.mem_map.1 hx
  rfl
theorem codeV_of {cd : LV} {cs : List Nat} (h : codeOf cd = some cs) (hp : Heap) : CodeV hp cd cs := by
  refine ⟨cd, ?_, h⟩
  rcases codeOf_shape h with ⟨rfl, rfl⟩ | rfl
  · rfl
  · show ((u32s cs).mapM (freezeV hp 9)).map (fun us => LV.vs us cs.length) = _
    rw [mapM_bare hp 9 _ (u32s_bare cs 8)]; rfl
theorem call17_24 (run : Run) {h : Heap} {cd : LV} {cs : List Nat} (hc : CodeV h cd cs) (at_ : Int) : callE Tryz.prog ov17 run 89 [cd, .int .i64 at_] h = some (.int .i64 (.ofNat (longN cs at_)), h) := by
  obtain ⟨v, h1, h2⟩ := hc
  show pureCall fLong _ h = _
  rw [pure2 h1 (rfl : freezeV h 10 (.int .i64 at_) = some (.int .i64 at_))]
  simp only [fLong, h2, Option.map_some, putGift]
theorem call17_24' (run : Run) (h : Heap) {cd : LV} {cs : List Nat} (hc : codeOf cd = some cs) (at_ : Int) : callE Tryz.prog ov17 run 89 [cd, .int .i64 at_] h = some (.int .i64 (.ofNat (longN cs at_)), h) := call17_24 run (codeV_of hc h) at_
theorem startsN_step {cs : List Nat} {at_ k n : Nat} {pre : List Nat} (hat : at_ < cs.length) (hn : insN (cs.drop at_) = n + 1) (hk : cs.length - at_ ≤ k + 1) (h : (startsF (k + 1) at_ (cs.drop at_)).map (pre ++ ·) = startsN cs) :
    (startsF k (at_ + (n + 1)) (cs.drop (at_ + (n + 1)))).map ((pre ++ [at_]) ++ ·) = startsN cs := by
  have hd : cs.drop at_ = cs[at_] :: cs.drop (at_ + 1) := List.drop_eq_getElem_cons hat
  rw [← h, hd]
  rw [hd] at hn
  have hs : startsF (k + 1) at_ (cs[at_] :: cs.drop (at_ + 1)) = (startsF k (at_ + (n + 1)) ((cs.drop (at_ + 1)).drop n)).map (at_ :: ·) := by simp only [startsF, hn]
  rw [hs]
  simp only [List.drop_drop, Option.map_map]
  rw [show at_ + 1 + n = at_ + (n + 1) by omega]
  congr 1
  funext l
  simp
theorem starts_body (cd : LV) (cs : List Nat) (hcd : codeOf cd = some cs) : ∃ r h1, Evc Tryz.prog ov17 35 [cd] Heap.empty (r, h1) ∧ giftE h1 r = some (startsGift cs) := by
  have hL := codeOf_len hcd
  have hlen := code_len hcd
  refine Evc.of rfl Tryz.func35 rfl rfl ?_
  repeat (first | refine EvP.seq ?_ | refine EvP.region ?_ | refine OpsP.nil ?_ | refine GuardP.no ?_ | refine DGuardP.no ?_ | refine DrP.nil ?_ | refine CondP.t ?_ | refine CondP.f ?_ | refine EvP.ret ?_ | refine EvP.skip ?_ | refine EvP.exit ?_ | refine EvP.block ?_ | refine EvP.scope ?_  | ((first | refine OpsP.put (v := ?_) (h1 := ?_) ?hd ?he ?_ | refine OpsP.eff (v := ?_) (h1 := ?_) ?he ?_ | refine GuardP.yes (v := ?_) (h1 := ?_) ?he ?_  | (refine DrP.put (d := ?_) (op := ?_) (t := ?_) (p := ?_) (a := ?_) (v := ?_) (h1 := ?_) ?ho ?hd ?he ?_; (case ho => rfl)) | (refine DrP.eff (op := ?_) (t := ?_) (p := ?_) (a := ?_) (v := ?_) (h1 := ?_) ?ho ?he ?_; (case ho => rfl)) | refine DGuardP.yes (v := ?_) (h1 := ?_) ?he ?_); (try case hd => rfl); (case he => intro run; ((try simp only [evOp, evA, val, vals, oval, parts, get_set, get_nil, ofArgs, ofValue, binOpE, arith, ilt, convertE, unOpE, builtinE, lenE, callV, List.nil_append, List.append_nil, Option.bind_some, Option.map_some, Nat.reduceEqDiff, reduceIte, Bool.not_true, Bool.not_false, List.getElem?_cons_zero, List.getElem?_cons_succ, List.getElem?_toArray, Array.toList, List.mapM_cons, List.mapM_nil, Option.pure_def, Option.bind_eq_bind]) <;> exact rfl)))  | ((first | refine OpsP.guard (x := ?_) (b := ?_) ?hj ?hx ?hd ?_ | (refine DrP.guard (d := ?_) (op := ?_) (t := ?_) (p := ?_) (a := ?_) (j := ?_) (w := ?_) (x := ?_) (b := ?_) ?ho ?hj ?hx ?hd ?_; (case ho => rfl)) | refine EvP.condB (c := ?_) ?hx ?_); (try case hj => rfl); (case hx => ((try simp only [val, get_set, get_nil, ofArgs, ofValue, Nat.reduceEqDiff, reduceIte, Option.map_some]) <;> exact rfl)); (try case hd => rfl)))
  refine EvP.loop (fun m tm h => tm.get 0 = cd ∧ ∃ i pre k, m = cs.length - i ∧ i ≤ cs.length ∧ tm.get 5 = .int .i64 (.ofNat i) ∧ pre.length ≤ i ∧ cs.length - i ≤ k ∧ (startsF k i (cs.drop i)).map (pre ++ ·) = startsN cs ∧
      ((pre = [] ∧ tm.get 4 = .nils) ∨ ∃ q x l, pre = x :: l ∧ tm.get 4 = .slice q l.length 0 (l.length + 1) none 1 ∧ h.get q = some (.row (i64s pre) l.length (wlN (l.length + 1))) ∧ q < h.next)) cs.length ?_ ?_
  · refine ⟨?_, 0, [], cs.length, rfl, by omega, ?_, Nat.le_refl _, Nat.le_refl _, ?_, .inl ⟨rfl, ?_⟩⟩
    · exact (by (try simp only [val, get_set, get_nil, ofArgs, ofValue, Nat.reduceEqDiff, reduceIte, Option.map_some]) <;> exact rfl)
    · exact (by (try simp only [val, get_set, get_nil, ofArgs, ofValue, Nat.reduceEqDiff, reduceIte, Option.map_some]) <;> exact rfl)
    · simp [startsN]
    · exact (by (try simp only [val, get_set, get_nil, ofArgs, ofValue, Nat.reduceEqDiff, reduceIte, Option.map_some]) <;> exact rfl)
  · rintro m tm h ⟨h0, i, pre, k, rfl, hi, h5, hpl, hk, hst, hpre⟩
    by_cases hlt : i < cs.length
    · have f1 : Nat.blt i cs.length = true := by rw [blt_eq]; simp [hlt]
      have hd : cs.drop i = cs[i] :: cs.drop (i + 1) := List.drop_eq_getElem_cons hlt
      have hcl := fun run h => call17_24' run h hcd (.ofNat i)
      have hln : longN cs (.ofNat i) = insN (cs.drop i) := rfl
      obtain ⟨k, rfl⟩ : ∃ k', k = k' + 1 := ⟨k - 1, by omega⟩
      have hle : insN (cs.drop i) ≤ cs.length - i := by have := insN_le (cs.drop i); simpa using this
      cases hn : insN (cs.drop i) with
      | zero =>
        rw [hln, hn] at hcl
        have chk_ : True := by simp only [h0, h5, hlen, f1, hcl, ieq]
        clear chk_
        repeat (first | refine EvP.seq ?_ | refine EvP.region ?_ | refine OpsP.nil ?_ | refine GuardP.no ?_ | refine DGuardP.no ?_ | refine DrP.nil ?_ | refine CondP.t ?_ | refine CondP.f ?_ | refine EvP.ret ?_ | refine EvP.skip ?_ | refine EvP.exit ?_ | refine EvP.block ?_ | refine EvP.scope ?_  | ((first | refine OpsP.put (v := ?_) (h1 := ?_) ?hd ?he ?_ | refine OpsP.eff (v := ?_) (h1 := ?_) ?he ?_ | refine GuardP.yes (v := ?_) (h1 := ?_) ?he ?_  | (refine DrP.put (d := ?_) (op := ?_) (t := ?_) (p := ?_) (a := ?_) (v := ?_) (h1 := ?_) ?ho ?hd ?he ?_; (case ho => rfl)) | (refine DrP.eff (op := ?_) (t := ?_) (p := ?_) (a := ?_) (v := ?_) (h1 := ?_) ?ho ?he ?_; (case ho => rfl)) | refine DGuardP.yes (v := ?_) (h1 := ?_) ?he ?_); (try case hd => rfl); (case he => intro run; ((try simp only [evOp, evA, val, vals, oval, parts, get_set, get_nil, ofArgs, ofValue, binOpE, arith, ilt, convertE, unOpE, builtinE, callV, List.nil_append, List.append_nil, Option.bind_some, Option.map_some, Nat.reduceEqDiff, reduceIte, Bool.not_true, Bool.not_false, List.getElem?_cons_zero, List.getElem?_cons_succ, List.getElem?_toArray, Array.toList, List.mapM_cons, List.mapM_nil, Option.pure_def, Option.bind_eq_bind, h0, h5, hlen, f1, hcl, ieq]) <;> exact rfl)))  | ((first | refine OpsP.guard (x := ?_) (b := ?_) ?hj ?hx ?hd ?_ | (refine DrP.guard (d := ?_) (op := ?_) (t := ?_) (p := ?_) (a := ?_) (j := ?_) (w := ?_) (x := ?_) (b := ?_) ?ho ?hj ?hx ?hd ?_; (case ho => rfl)) | refine EvP.condB (c := ?_) ?hx ?_); (try case hj => rfl); (case hx => ((try simp only [val, get_set, get_nil, ofArgs, ofValue, Nat.reduceEqDiff, reduceIte, Option.map_some, h0, h5, hlen, f1, hcl, ieq]) <;> exact rfl)); (try case hd => rfl)))
        refine ⟨_, rfl, ?_⟩
        simp only [oneOf, get_set, Nat.reduceEqDiff, reduceIte]
        have : startsN cs = none := by
          rw [← hst, hd]
          rw [hd] at hn
          simp only [startsF, hn, Option.map_none]
        simp only [startsGift, this]
        rfl
      | succ n =>
        rw [hln, hn] at hcl
        have hst' := startsN_step hlt hn hk hst
        have w1 : wrap .i64 (Int.ofNat i + Int.ofNat (n + 1)) = .ofNat (i + (n + 1)) := by rw [show Int.ofNat i + Int.ofNat (n + 1) = Int.ofNat (i + (n + 1)) from rfl, wrap_nat .i64 _ (by simp only [half]; omega)]
        have n0 : Nat.beq (n + 1) 0 = false := rfl
        have hg : (h.new (.row [.int .i64 (.ofNat i)] 0 0)).2.get h.next = some (.row [.int .i64 (.ofNat i)] 0 0) := by simp only [hget_new, reduceIte]
        rcases hpre with ⟨rfl, h4⟩ | ⟨q, x, l, rfl, h4, hq, hqn⟩
        · have ha := app24_nil hg
          have chk_ : True := by simp only [h0, h5, h4, hlen, f1, hcl, ieq, n0, bs24, putNew_eq, ha, w1]
          clear chk_
          repeat (first | refine EvP.seq ?_ | refine EvP.region ?_ | refine OpsP.nil ?_ | refine GuardP.no ?_ | refine DGuardP.no ?_ | refine DrP.nil ?_ | refine CondP.t ?_ | refine CondP.f ?_ | refine EvP.ret ?_ | refine EvP.skip ?_ | refine EvP.exit ?_ | refine EvP.block ?_ | refine EvP.scope ?_  | ((first | refine OpsP.put (v := ?_) (h1 := ?_) ?hd ?he ?_ | refine OpsP.eff (v := ?_) (h1 := ?_) ?he ?_ | refine GuardP.yes (v := ?_) (h1 := ?_) ?he ?_  | (refine DrP.put (d := ?_) (op := ?_) (t := ?_) (p := ?_) (a := ?_) (v := ?_) (h1 := ?_) ?ho ?hd ?he ?_; (case ho => rfl)) | (refine DrP.eff (op := ?_) (t := ?_) (p := ?_) (a := ?_) (v := ?_) (h1 := ?_) ?ho ?he ?_; (case ho => rfl)) | refine DGuardP.yes (v := ?_) (h1 := ?_) ?he ?_); (try case hd => rfl); (case he => intro run; ((try simp only [evOp, evA, val, vals, oval, parts, get_set, get_nil, ofArgs, ofValue, binOpE, arith, ilt, convertE, unOpE, builtinE, callV, List.nil_append, List.append_nil, Option.bind_some, Option.map_some, Nat.reduceEqDiff, reduceIte, Bool.not_true, Bool.not_false, List.getElem?_cons_zero, List.getElem?_cons_succ, List.getElem?_toArray, Array.toList, List.mapM_cons, List.mapM_nil, Option.pure_def, Option.bind_eq_bind, h0, h5, h4, hlen, f1, hcl, ieq, n0, bs24, putNew_eq, ha, w1]) <;> exact rfl)))  | ((first | refine OpsP.guard (x := ?_) (b := ?_) ?hj ?hx ?hd ?_ | (refine DrP.guard (d := ?_) (op := ?_) (t := ?_) (p := ?_) (a := ?_) (j := ?_) (w := ?_) (x := ?_) (b := ?_) ?ho ?hj ?hx ?hd ?_; (case ho => rfl)) | refine EvP.condB (c := ?_) ?hx ?_); (try case hj => rfl); (case hx => ((try simp only [val, get_set, get_nil, ofArgs, ofValue, Nat.reduceEqDiff, reduceIte, Option.map_some, h0, h5, h4, hlen, f1, hcl, ieq, n0, bs24, putNew_eq, ha, w1]) <;> exact rfl)); (try case hd => rfl)))
          refine ⟨cs.length - (i + (n + 1)), by omega, ?_, i + (n + 1), [i], k, rfl, by omega, ?_, ?_, by omega, ?_, .inr ⟨h.next + 1, i, [], rfl, ?_, ?_, ?_⟩⟩
          · exact (by (try simp only [val, get_set, get_nil, ofArgs, ofValue, Nat.reduceEqDiff, reduceIte, Option.map_some, h0]) <;> exact rfl)
          · exact (by (try simp only [val, get_set, get_nil, ofArgs, ofValue, Nat.reduceEqDiff, reduceIte, Option.map_some]) <;> exact rfl)
          · show 1 ≤ _; omega
          · exact hst'
          · exact (by (try simp only [val, get_set, get_nil, ofArgs, ofValue, Nat.reduceEqDiff, reduceIte, Option.map_some, hnext_new]) <;> exact rfl)
          · simp only [hget_new, hnext_new, reduceIte]; rfl
          · simp only [hnext_new]; omega
        · have hq' : (h.new (.row [.int .i64 (.ofNat i)] 0 0)).2.get q = some (.row (i64s (x :: l)) l.length (wlN (l.length + 1))) := by
            rw [hget_new, if_neg (by omega), hq]
          have ha := app24_one hg hq' (m := l.length + 1) (by simp [i64s]) (by simp at hpl; omega)
          have chk_ : True := by simp only [h0, h5, h4, hlen, f1, hcl, ieq, n0, bs24, putNew_eq, ha, w1]
          clear chk_
          repeat (first | refine EvP.seq ?_ | refine EvP.region ?_ | refine OpsP.nil ?_ | refine GuardP.no ?_ | refine DGuardP.no ?_ | refine DrP.nil ?_ | refine CondP.t ?_ | refine CondP.f ?_ | refine EvP.ret ?_ | refine EvP.skip ?_ | refine EvP.exit ?_ | refine EvP.block ?_ | refine EvP.scope ?_  | ((first | refine OpsP.put (v := ?_) (h1 := ?_) ?hd ?he ?_ | refine OpsP.eff (v := ?_) (h1 := ?_) ?he ?_ | refine GuardP.yes (v := ?_) (h1 := ?_) ?he ?_  | (refine DrP.put (d := ?_) (op := ?_) (t := ?_) (p := ?_) (a := ?_) (v := ?_) (h1 := ?_) ?ho ?hd ?he ?_; (case ho => rfl)) | (refine DrP.eff (op := ?_) (t := ?_) (p := ?_) (a := ?_) (v := ?_) (h1 := ?_) ?ho ?he ?_; (case ho => rfl)) | refine DGuardP.yes (v := ?_) (h1 := ?_) ?he ?_); (try case hd => rfl); (case he => intro run; ((try simp only [evOp, evA, val, vals, oval, parts, get_set, get_nil, ofArgs, ofValue, binOpE, arith, ilt, convertE, unOpE, builtinE, callV, List.nil_append, List.append_nil, Option.bind_some, Option.map_some, Nat.reduceEqDiff, reduceIte, Bool.not_true, Bool.not_false, List.getElem?_cons_zero, List.getElem?_cons_succ, List.getElem?_toArray, Array.toList, List.mapM_cons, List.mapM_nil, Option.pure_def, Option.bind_eq_bind, h0, h5, h4, hlen, f1, hcl, ieq, n0, bs24, putNew_eq, ha, w1]) <;> exact rfl)))  | ((first | refine OpsP.guard (x := ?_) (b := ?_) ?hj ?hx ?hd ?_ | (refine DrP.guard (d := ?_) (op := ?_) (t := ?_) (p := ?_) (a := ?_) (j := ?_) (w := ?_) (x := ?_) (b := ?_) ?ho ?hj ?hx ?hd ?_; (case ho => rfl)) | refine EvP.condB (c := ?_) ?hx ?_); (try case hj => rfl); (case hx => ((try simp only [val, get_set, get_nil, ofArgs, ofValue, Nat.reduceEqDiff, reduceIte, Option.map_some, h0, h5, h4, hlen, f1, hcl, ieq, n0, bs24, putNew_eq, ha, w1]) <;> exact rfl)); (try case hd => rfl)))
          refine ⟨cs.length - (i + (n + 1)), by omega, ?_, i + (n + 1), x :: (l ++ [i]), k, rfl, by omega, ?_, ?_, by omega, ?_, .inr ⟨q, x, l ++ [i], rfl, ?_, ?_, ?_⟩⟩
          · exact (by (try simp only [val, get_set, get_nil, ofArgs, ofValue, Nat.reduceEqDiff, reduceIte, Option.map_some, h0]) <;> exact rfl)
          · exact (by (try simp only [val, get_set, get_nil, ofArgs, ofValue, Nat.reduceEqDiff, reduceIte, Option.map_some]) <;> exact rfl)
          · simp at hpl ⊢; omega
          · exact hst'
          · simp only [get_set, Nat.reduceEqDiff, reduceIte, List.length_append, List.length_singleton]
          · simp only [hget_set, reduceIte, List.length_append, List.length_singleton]
            have e1 : i64s (x :: l) ++ [LV.int .i64 (.ofNat i)] = i64s (x :: (l ++ [i])) := by simp [i64s]
            have e2 : Nat.min (match Nat.beq l.length 0 with | true => l.length + 1 | false => wlN (l.length + 1)) (l.length + 1) = wlN (l.length + 1 + 1) := by
              cases l with
              | nil => rfl
              | cons y l => simp [wlN, Nat.beq]
            rw [e1, e2]
          · simp only [hnext_set, hnext_new]; omega
    · have f1 : Nat.blt i cs.length = false := by rw [blt_eq]; simp; omega
      have : i = cs.length := by omega
      subst this
      have hst2 : startsN cs = some pre := by
        rw [← hst, List.drop_length]
        cases k <;> simp [startsF]
      have chk_ : True := by simp only [h0, h5, hlen, f1]
      clear chk_
      repeat (first | refine EvP.seq ?_ | refine EvP.region ?_ | refine OpsP.nil ?_ | refine GuardP.no ?_ | refine DGuardP.no ?_ | refine DrP.nil ?_ | refine CondP.t ?_ | refine CondP.f ?_ | refine EvP.ret ?_ | refine EvP.skip ?_ | refine EvP.exit ?_ | refine EvP.block ?_ | refine EvP.scope ?_  | ((first | refine OpsP.put (v := ?_) (h1 := ?_) ?hd ?he ?_ | refine OpsP.eff (v := ?_) (h1 := ?_) ?he ?_ | refine GuardP.yes (v := ?_) (h1 := ?_) ?he ?_  | (refine DrP.put (d := ?_) (op := ?_) (t := ?_) (p := ?_) (a := ?_) (v := ?_) (h1 := ?_) ?ho ?hd ?he ?_; (case ho => rfl)) | (refine DrP.eff (op := ?_) (t := ?_) (p := ?_) (a := ?_) (v := ?_) (h1 := ?_) ?ho ?he ?_; (case ho => rfl)) | refine DGuardP.yes (v := ?_) (h1 := ?_) ?he ?_); (try case hd => rfl); (case he => intro run; ((try simp only [evOp, evA, val, vals, oval, parts, get_set, get_nil, ofArgs, ofValue, binOpE, arith, ilt, convertE, unOpE, builtinE, callV, List.nil_append, List.append_nil, Option.bind_some, Option.map_some, Nat.reduceEqDiff, reduceIte, Bool.not_true, Bool.not_false, List.getElem?_cons_zero, List.getElem?_cons_succ, List.getElem?_toArray, Array.toList, List.mapM_cons, List.mapM_nil, Option.pure_def, Option.bind_eq_bind, h0, h5, hlen, f1]) <;> exact rfl)))  | ((first | refine OpsP.guard (x := ?_) (b := ?_) ?hj ?hx ?hd ?_ | (refine DrP.guard (d := ?_) (op := ?_) (t := ?_) (p := ?_) (a := ?_) (j := ?_) (w := ?_) (x := ?_) (b := ?_) ?ho ?hj ?hx ?hd ?_; (case ho => rfl)) | refine EvP.condB (c := ?_) ?hx ?_); (try case hj => rfl); (case hx => ((try simp only [val, get_set, get_nil, ofArgs, ofValue, Nat.reduceEqDiff, reduceIte, Option.map_some, h0, h5, hlen, f1]) <;> exact rfl)); (try case hd => rfl)))
      refine ⟨_, rfl, ?_⟩
      simp only [oneOf, get_set, Nat.reduceEqDiff, reduceIte, startsGift, hst2]
      rcases hpre with ⟨rfl, h4⟩ | ⟨q, x, l, rfl, h4, hq, hqn⟩
      · rw [h4]; rfl
      · rw [h4]
        have hb : bareV 10 (.tuple [.slice q l.length 0 (l.length + 1) none 1, .bool true]) = false := rfl
        have hr : rowOf h q = some (.row (i64s (x :: l)) l.length (wlN (l.length + 1))) := by
          have hall : (i64s (x :: l)).all (bareV 10) = true := by
            rw [List.all_eq_true]
            intro y hy
            obtain ⟨n, _, rfl⟩ := List.mem_map.1 hy
            rfl
          simp only [rowOf, hq, hall]
        have hrest : ([LV.bool true].all (bareV 10)) = true := rfl
        simp only [giftE, hb, hrest, hr, Option.map_some, intsGift]
theorem starts_ok : PureOk Tryz.prog ov17 35 fStarts := pureOk_of fun vs p hp => by
  unfold fStarts at hp
  split at hp
  · rename_i cd
    obtain ⟨cs, hcd, e⟩ := mp hp
    subst e
    exact starts_body cd cs hcd
  · cases hp
def ov18 : Ov := ov17.with 35 fStarts
theorem ov18_ok : OvOk Tryz.prog ov18 := Ov.with_ok prog_ok ov17_ok starts_ok
end
end Go.Ev

namespace Go.Ev
noncomputable section
open Go.Proofs
set_option linter.unusedSimpArgs false
set_option linter.unusedVariables false
set_option maxRecDepth 10000
set_option maxHeartbeats 4000000
theorem startsGift_cases (cs : List Nat) : (startsN cs = none ∧ startsGift cs = (none, fun _ => .tuple [.nils, .bool false])) ∨ (startsN cs = some [] ∧ startsGift cs = (none, fun _ => .tuple [.nils, .bool true])) ∨
    ∃ x l, startsN cs = some (x :: l) ∧ startsGift cs = (some (.row (i64s (x :: l)) l.length (wlN (l.length + 1))), fun id => .tuple [.slice id l.length 0 (l.length + 1) none 1, .bool true]) := by
  unfold startsGift
  cases h : startsN cs with
  | none => exact .inl ⟨rfl, rfl⟩
  | some l =>
    cases l with
    | nil => exact .inr (.inl ⟨rfl, rfl⟩)
    | cons x l => exact .inr (.inr ⟨x, l, rfl, rfl⟩)
theorem i64s_bare (l : List Nat) (d : Nat) : (i64s l).all (bareV (d + 1)) = true := by
  rw [List.all_eq_true]
  intro x hx
  obtain ⟨n, _, rfl⟩ := List.mem_map.1 hx
  rfl
theorem gift_ints {h : Heap} {q : Nat} {x : Nat} {l : List Nat} (hq : h.get q = some (.row (i64s (x :: l)) l.length (wlN (l.length + 1)))) (w : Bool) :
    giftE h (.tuple [.slice q l.length 0 (l.length + 1) none 1, .bool w]) = some (some (.row (i64s (x :: l)) l.length (wlN (l.length + 1))), fun id => .tuple [.slice id l.length 0 (l.length + 1) none 1, .bool w]) := by
  have hb : bareV 10 (.tuple [.slice q l.length 0 (l.length + 1) none 1, .bool w]) = false := rfl
  have hr : rowOf h q = some (.row (i64s (x :: l)) l.length (wlN (l.length + 1))) := by simp only [rowOf, hq, i64s_bare (x :: l) 9]
  have hrest : ([LV.bool w].all (bareV 10)) = true := rfl
  simp only [giftE, hb, hrest, hr, Option.map_some]
theorem mapM_u32s : ∀ cs : List Nat, (u32s cs).mapM natOf = some cs
  | [] => rfl
  | c :: cs => by
    have h := mapM_u32s cs
    unfold u32s at h ⊢
    rw [List.map_cons, List.mapM_cons, h]
    rfl
theorem spot_row {x j : Nat} (h : spotN x = .ofNat j) : j < 113 := by
  rcases spotN_lt x with h' | ⟨i, hi, h'⟩
  · rw [h'] at h; cases h
  · rw [h'] at h; cases h; exact hi
theorem text_one {j : Nat} (hj : j < 113) (ht : (rowOfTab j).2.2.2.2.2.1 = true) : (rowOfTab j).2.2.2.2.1 = 1 := by
  obtain ⟨a, nm, c, d, e, f, g, hr, _, _, hf, _⟩ := row_data j hj
  rw [hr] at ht ⊢
  exact (hf ht).1
theorem bridge_unused : True := trivial
def ov21 : Ov := ov18
theorem ov21_ok : OvOk Tryz.prog ov21 := ov18_ok
end
end Go.Ev

namespace Go.Ev
noncomputable section
open Go.Proofs
set_option linter.unusedSimpArgs false
set_option linter.unusedVariables false
set_option maxRecDepth 10000
set_option maxHeartbeats 2000000
/-! ## Check: what it computes -/
abbrev Wd := List Nat × Nat × List Nat
def jumpsN (x : Nat) : Bool := match spotN x with
  | .ofNat j => (rowOfTab j).2.2.2.2.2.2
  | .negSucc _ => false
def startsOf (ws : List Wd) (j : Nat) : List Nat := match ws[j]? with
  | some w => (startsN w.2.2).getD []
  | none => []
def placeB (ws : List Wd) (n a b : Nat) : Bool := decide (a < n) && decide (b ∈ startsOf ws a)
def instB (ws : List Wd) (i : Nat) (r : List Nat) : Bool := match r with
  | [] => true
  | x :: r => if 256 ≤ x then decide (x - 256 ≤ i) else if jumpsN x = true then placeB ws (i + 1) i (r.getD 0 0) else if x = 139 then decide (r.getD 0 0 < i) && placeB ws (i + 1) (r.getD 0 0) (r.getD 1 0) else true
def wordB (ws : List Wd) (i : Nat) : Bool := match ws[i]? with
  | none => true
  | some w => match startsN w.2.2 with
    | none => false
    | some L => rightW w.1 w.2.1 w.2.2.length && !L.isEmpty && decide (w.2.2.getD (L.getD (L.length - 1) 0) 0 = 101) && L.all fun at_ => instB ws i (w.2.2.drop at_)
def checkFrom (ws : List Wd) : Nat → Nat → Int
  | 0, _ => -1
  | k + 1, i => match wordB ws i with
    | true => checkFrom ws k (i + 1)
    | false => .ofNat i
def checkN (ws : List Wd) : Int := checkFrom ws ws.length 0

/-! jumps -/
def fJumps : Pure
  | [.int .u32 (.ofNat x)] => some (none, fun _ => .bool (jumpsN x))
  | _ => none
theorem call21_13 (run : Run) (h : Heap) (n : Nat) : callE Tryz.prog ov21 run 91 [.int .u32 (.ofNat n)] h = some (getN n, h) := rfl
theorem jumps_body (x : Nat) : ∃ r h1, Evc Tryz.prog ov21 37 [.int .u32 (.ofNat x)] Heap.empty (r, h1) ∧ r = .bool (jumpsN x) := by
  rcases spotN_lt x with hs | ⟨j, hj, hs⟩
  · have hg : getN x = .tuple [.agg noRow, .bool false] := by unfold getN; rw [hs]; rfl
    have st : storeAt Tryz.prog 38 (.ptr 0 0 0) (.agg noRow) (Heap.empty.new (.row noRow 0 0)).2 = some ((Heap.empty.new (.row noRow 0 0)).2.set 0 (.row noRow 0 0)) := store_fresh (cs := noRow) (by simp only [hget_new, hnext_empty, reduceIte]) rfl rfl rfl
    have l6 : loadAt Tryz.prog 4 (.ptr 0 0 (0 + 6)) ((Heap.empty.new (.row noRow 0 0)).2.set 0 (.row noRow 0 0)) = some (.bool false) := by simp only [loadAt, agg4, readN, hget_set, reduceIte]; rfl
    refine Evc.of rfl Tryz.func37 rfl rfl ?_
    have chk_ : True := by simp only [call21_13, hg, zero39, LV.cells, putNew_eq, hnext_empty, st, l6, fa39_6]
    clear chk_
    repeat (first | refine EvP.seq ?_ | refine EvP.region ?_ | refine OpsP.nil ?_ | refine GuardP.no ?_ | refine DGuardP.no ?_ | refine DrP.nil ?_ | refine CondP.t ?_ | refine CondP.f ?_ | refine EvP.ret ?_ | refine EvP.skip ?_ | refine EvP.exit ?_ | refine EvP.block ?_ | refine EvP.scope ?_  | ((first | refine OpsP.put (v := ?_) (h1 := ?_) ?hd ?he ?_ | refine OpsP.eff (v := ?_) (h1 := ?_) ?he ?_ | refine GuardP.yes (v := ?_) (h1 := ?_) ?he ?_  | (refine DrP.put (d := ?_) (op := ?_) (t := ?_) (p := ?_) (a := ?_) (v := ?_) (h1 := ?_) ?ho ?hd ?he ?_; (case ho => rfl)) | (refine DrP.eff (op := ?_) (t := ?_) (p := ?_) (a := ?_) (v := ?_) (h1 := ?_) ?ho ?he ?_; (case ho => rfl)) | refine DGuardP.yes (v := ?_) (h1 := ?_) ?he ?_); (try case hd => rfl); (case he => intro run; ((try simp only [evOp, evA, val, vals, oval, parts, get_set, get_nil, ofArgs, ofValue, binOpE, arith, ilt, convertE, unOpE, builtinE, lenE, callV, List.nil_append, List.append_nil, Option.bind_some, Option.map_some, Nat.reduceEqDiff, reduceIte, Bool.not_true, Bool.not_false, List.getElem?_cons_zero, List.getElem?_cons_succ, List.getElem?_toArray, Array.toList, List.mapM_cons, List.mapM_nil, Option.pure_def, Option.bind_eq_bind, call21_13, hg, zero39, LV.cells, putNew_eq, hnext_empty, st, l6, fa39_6]) <;> exact rfl)))  | ((first | refine OpsP.guard (x := ?_) (b := ?_) ?hj ?hx ?hd ?_ | (refine DrP.guard (d := ?_) (op := ?_) (t := ?_) (p := ?_) (a := ?_) (j := ?_) (w := ?_) (x := ?_) (b := ?_) ?ho ?hj ?hx ?hd ?_; (case ho => rfl)) | refine EvP.condB (c := ?_) ?hx ?_); (try case hj => rfl); (case hx => ((try simp only [val, get_set, get_nil, ofArgs, ofValue, Nat.reduceEqDiff, reduceIte, Option.map_some, call21_13, hg, zero39, LV.cells, putNew_eq, hnext_empty, st, l6, fa39_6]) <;> exact rfl)); (try case hd => rfl)))
    refine ⟨_, rfl, ?_⟩
    simp only [oneOf, get_set, Nat.reduceEqDiff, reduceIte, jumpsN, hs]
    rfl
  · obtain ⟨a, nm, c, d, e, f, g, hrow, hcells, he, hf, hg'⟩ := row_data j hj
    have hg : getN x = .tuple [.agg [.int .u32 (.ofNat a), .str nm, .int .i64 (.ofNat c), .int .i64 (.ofNat d), .int .i64 (.ofNat e), .bool f, .bool g], .bool true] := by rw [getN_of x j hs, hcells]
    have st : storeAt Tryz.prog 38 (.ptr 0 0 0) (.agg [.int .u32 (.ofNat a), .str nm, .int .i64 (.ofNat c), .int .i64 (.ofNat d), .int .i64 (.ofNat e), .bool f, .bool g]) (Heap.empty.new (.row noRow 0 0)).2 = some ((Heap.empty.new (.row noRow 0 0)).2.set 0 (.row [.int .u32 (.ofNat a), .str nm, .int .i64 (.ofNat c), .int .i64 (.ofNat d), .int .i64 (.ofNat e), .bool f, .bool g] 0 0)) := store_fresh (cs := noRow) (by simp only [hget_new, hnext_empty, reduceIte]) rfl rfl rfl
    have l6 : loadAt Tryz.prog 4 (.ptr 0 0 (0 + 6)) ((Heap.empty.new (.row noRow 0 0)).2.set 0 (.row [.int .u32 (.ofNat a), .str nm, .int .i64 (.ofNat c), .int .i64 (.ofNat d), .int .i64 (.ofNat e), .bool f, .bool g] 0 0)) = some (.bool g) := by simp only [loadAt, agg4, readN, hget_set, reduceIte]; rfl
    refine Evc.of rfl Tryz.func37 rfl rfl ?_
    have chk_ : True := by simp only [call21_13, hg, zero39, LV.cells, putNew_eq, hnext_empty, st, l6, fa39_6]
    clear chk_
    repeat (first | refine EvP.seq ?_ | refine EvP.region ?_ | refine OpsP.nil ?_ | refine GuardP.no ?_ | refine DGuardP.no ?_ | refine DrP.nil ?_ | refine CondP.t ?_ | refine CondP.f ?_ | refine EvP.ret ?_ | refine EvP.skip ?_ | refine EvP.exit ?_ | refine EvP.block ?_ | refine EvP.scope ?_  | ((first | refine OpsP.put (v := ?_) (h1 := ?_) ?hd ?he ?_ | refine OpsP.eff (v := ?_) (h1 := ?_) ?he ?_ | refine GuardP.yes (v := ?_) (h1 := ?_) ?he ?_  | (refine DrP.put (d := ?_) (op := ?_) (t := ?_) (p := ?_) (a := ?_) (v := ?_) (h1 := ?_) ?ho ?hd ?he ?_; (case ho => rfl)) | (refine DrP.eff (op := ?_) (t := ?_) (p := ?_) (a := ?_) (v := ?_) (h1 := ?_) ?ho ?he ?_; (case ho => rfl)) | refine DGuardP.yes (v := ?_) (h1 := ?_) ?he ?_); (try case hd => rfl); (case he => intro run; ((try simp only [evOp, evA, val, vals, oval, parts, get_set, get_nil, ofArgs, ofValue, binOpE, arith, ilt, convertE, unOpE, builtinE, lenE, callV, List.nil_append, List.append_nil, Option.bind_some, Option.map_some, Nat.reduceEqDiff, reduceIte, Bool.not_true, Bool.not_false, List.getElem?_cons_zero, List.getElem?_cons_succ, List.getElem?_toArray, Array.toList, List.mapM_cons, List.mapM_nil, Option.pure_def, Option.bind_eq_bind, call21_13, hg, zero39, LV.cells, putNew_eq, hnext_empty, st, l6, fa39_6]) <;> exact rfl)))  | ((first | refine OpsP.guard (x := ?_) (b := ?_) ?hj ?hx ?hd ?_ | (refine DrP.guard (d := ?_) (op := ?_) (t := ?_) (p := ?_) (a := ?_) (j := ?_) (w := ?_) (x := ?_) (b := ?_) ?ho ?hj ?hx ?hd ?_; (case ho => rfl)) | refine EvP.condB (c := ?_) ?hx ?_); (try case hj => rfl); (case hx => ((try simp only [val, get_set, get_nil, ofArgs, ofValue, Nat.reduceEqDiff, reduceIte, Option.map_some, call21_13, hg, zero39, LV.cells, putNew_eq, hnext_empty, st, l6, fa39_6]) <;> exact rfl)); (try case hd => rfl)))
    refine ⟨_, rfl, ?_⟩
    simp only [oneOf, get_set, Nat.reduceEqDiff, reduceIte, jumpsN, hs, hrow]
theorem jumps_ok : PureOk Tryz.prog ov21 37 fJumps := pureOk_of fun vs p hp => by
  unfold fJumps at hp
  split at hp
  · rename_i x
    cases hp
    obtain ⟨r, h1, k1, rfl⟩ := jumps_body x
    exact ⟨_, h1, k1, rfl⟩
  · cases hp
def ov22 : Ov := ov21.with 37 fJumps
theorem ov22_ok : OvOk Tryz.prog ov22 := Ov.with_ok prog_ok ov21_ok jumps_ok
theorem call22_25 (run : Run) (h : Heap) (x : Nat) : callE Tryz.prog ov22 run 37 [.int .u32 (.ofNat x)] h = some (.bool (jumpsN x), h) := rfl
theorem call22_23 (run : Run) {h : Heap} {cd : LV} {cs : List Nat} (hc : CodeV h cd cs) : callE Tryz.prog ov22 run 35 [cd] h = some (putGift h (startsGift cs)) := by
  obtain ⟨v, h1, h2⟩ := hc
  show pureCall fStarts _ h = _
  rw [pure1 h1]
  simp only [fStarts, h2, Option.map_some]
theorem codeOf_codeLen {cd : LV} {cs : List Nat} (h : codeOf cd = some cs) : codeLen cd = some cs.length := by
  rcases codeOf_shape h with ⟨rfl, rfl⟩ | rfl <;> rfl
theorem freeze_code {cd : LV} {cs : List Nat} (h : codeOf cd = some cs) (hp : Heap) (d : Nat) : freezeV hp (d + 2) cd = some cd := by
  rcases codeOf_shape h with ⟨rfl, rfl⟩ | rfl
  · rfl
  · show ((u32s cs).mapM (freezeV hp (d + 1))).map (fun us => LV.vs us cs.length) = _
    rw [mapM_bare hp (d + 1) _ (u32s_bare cs d)]; rfl
theorem freeze_word {cd : LV} {cs : List Nat} (hcd : codeOf cd = some cs) (hp : Heap) (nm : List Nat) (fl : Int) (d : Nat) : freezeV hp (d + 3) (.agg [.str nm, .int .u8 fl, cd]) = some (.agg [.str nm, .int .u8 fl, cd]) := by
  show (([LV.str nm, .int .u8 fl, cd].mapM (freezeV hp (d + 2))).map LV.agg) = _
  simp only [List.mapM_cons, List.mapM_nil, freeze_code hcd hp d, Option.pure_def, Option.bind_eq_bind, Option.bind_some]
  rfl
theorem call22_22 (run : Run) (h : Heap) {cd : LV} {cs : List Nat} (hcd : codeOf cd = some cs) (nm : List Nat) (fl : Nat) (hs : strOk nm) : callE Tryz.prog ov22 run 36 [.agg [.str nm, .int .u8 (.ofNat fl), cd]] h = some (.bool (rightW nm fl cs.length), h) := by
  show pureCall fRight _ h = _
  rw [pure1 (freeze_word hcd h nm _ 7)]
  simp only [fRight, codeOf_codeLen hcd, Option.bind_some, if_pos hs, Option.map_some, putGift]
/-! the map of places -/
def keyLV (k : Nat × Nat) : LV := .agg [.int .u32 (.ofNat k.1), .int .u32 (.ofNat k.2)]
def entsF : List (Nat × Nat) → Nat → List Entry
  | [], _ => []
  | k :: S, n => ⟨keyLV k, .int .i64 1, n⟩ :: entsF S (n + 1)
theorem entsF_app : ∀ (S T : List (Nat × Nat)) (n : Nat), entsF (S ++ T) n = entsF S n ++ entsF T (n + S.length)
  | [], T, n => by simp [entsF]
  | k :: S, T, n => by
    simp only [List.cons_append, entsF, entsF_app S T (n + 1), List.length_cons]
    rw [show n + 1 + S.length = n + (S.length + 1) by omega]
theorem entsF_len : ∀ (S : List (Nat × Nat)) (n : Nat), (entsF S n).length = S.length
  | [], _ => rfl
  | k :: S, n => by simp [entsF, entsF_len S]
theorem eq52 (a b a' b' : Nat) : eqIn Tryz.prog 20 87 (keyLV (a, b)) (keyLV (a', b')) = (match Nat.beq a a' with | true => (match Nat.beq b b' with | true => some true | false => some false) | false => some false) := by kernel_rfl
theorem eq52_iff (k k' : Nat × Nat) : eqIn Tryz.prog 20 87 (keyLV k) (keyLV k') = some (decide (k = k')) := by
  obtain ⟨a, b⟩ := k
  obtain ⟨a', b'⟩ := k'
  rw [eq52, beq_eq, beq_eq]
  by_cases h1 : a = a'
  · by_cases h2 : b = b'
    · simp [h1, h2]
    · simp [h1, h2]
  · simp [h1]
theorem keyEq_none (k : Nat × Nat) : ∀ (S : List (Nat × Nat)) (n i : Nat), k ∉ S → keyEq Tryz.prog 87 (keyLV k) (entsF S n) i = some none
  | [], _, _, _ => rfl
  | k' :: S, n, i, h => by
    have h1 : ¬ k = k' := fun e => h (by simp [e])
    simp only [entsF, keyEq, eq52_iff, h1, decide_false, Option.bind_some]
    exact keyEq_none k S (n + 1) (i + 1) fun e => h (List.mem_cons_of_mem _ e)
theorem keyEq_some (k : Nat × Nat) : ∀ (S : List (Nat × Nat)) (n i : Nat), k ∈ S → ∃ j, keyEq Tryz.prog 87 (keyLV k) (entsF S n) i = some (some (j, .int .i64 1))
  | [], _, _, h => by cases h
  | k' :: S, n, i, h => by
    by_cases h1 : k = k'
    · simp only [entsF, keyEq, eq52_iff, h1, decide_true, Option.bind_some]
      exact ⟨_, rfl⟩
    · simp only [entsF, keyEq, eq52_iff, h1, decide_false, Option.bind_some]
      exact keyEq_some k S (n + 1) (i + 1) (by rcases List.mem_cons.1 h with e | e; exact absurd e h1; exact e)
theorem keyEq_app (k : Nat × Nat) (e : List Entry) : ∀ (S : List (Nat × Nat)) (n i : Nat), k ∉ S → keyEq Tryz.prog 87 (keyLV k) (entsF S n ++ e) i = keyEq Tryz.prog 87 (keyLV k) e (i + S.length)
  | [], _, _, _ => rfl
  | k' :: S, n, i, h => by
    have h1 : ¬ k = k' := fun e => h (by simp [e])
    simp only [entsF, List.cons_append, keyEq, eq52_iff, h1, decide_false, Option.bind_some, List.length_cons]
    rw [keyEq_app k e S (n + 1) (i + 1) fun e => h (List.mem_cons_of_mem _ e)]
    rw [show i + 1 + S.length = i + (S.length + 1) by omega]
theorem under50 : Tryz.prog.underlying 81 = some (.map 87 3) := by kernel_rfl
theorem keyOk52 (k : Nat × Nat) : keyOk Tryz.prog 5 87 (keyLV k) = true := by obtain ⟨a, b⟩ := k; kernel_rfl
theorem look50 {h : Heap} {mb : Nat} {S : List (Nat × Nat)} {c : Nat} (hm : h.get mb = some (.map (entsF S 0) c)) (k : Nat × Nat) : lookupE Tryz.prog 81 (.map mb) (keyLV k) false h = some (.int .i64 (.ofNat (if k ∈ S then 1 else 0))) := by
  simp only [lookupE, under50, keyOk52, hm, Option.bind_some]
  by_cases hk : k ∈ S
  · obtain ⟨j, hj⟩ := keyEq_some k S 0 0 hk
    rw [hj, if_pos hk]; rfl
  · rw [keyEq_none k S 0 0 hk, if_neg hk]
    simp only [Option.bind_some, zero3, Option.map_some]
    rfl
theorem entry50 {h : Heap} {mb : Nat} {S : List (Nat × Nat)} (hm : h.get mb = some (.map (entsF S 0) S.length)) (k : Nat × Nat) (hk : k ∉ S) :
    mapEntryE Tryz.prog 81 (.map mb) (keyLV k) h = some (.tuple [.int .i64 0, .int .i64 (.ofNat S.length)], h.set mb (.map (entsF S 0 ++ [⟨keyLV k, .int .i64 0, S.length⟩]) (S.length + 1))) := by
  simp only [mapEntryE, under50, keyOk52, hm, keyEq_none k S 0 0 hk, Option.bind_some, zero3, Option.map_some]
theorem bornAt_app : ∀ (S : List (Nat × Nat)) (n m i : Nat) (e : Entry), n + S.length ≤ m → e.born = m → bornAt m (entsF S n ++ [e]) i = some (i + S.length)
  | [], n, m, i, e, _, h => by
    have : Nat.beq e.born m = true := by rw [beq_eq]; simp [h]
    simp only [entsF, List.nil_append, bornAt, this]; rfl
  | k :: S, n, m, i, e, hn, h => by
    have : Nat.beq n m = false := by rw [beq_eq]; simp at hn ⊢; omega
    simp only [entsF, List.cons_append, bornAt, this]
    rw [bornAt_app S (n + 1) m (i + 1) e (by simp at hn; omega) h]
    simp; omega
theorem modify_last (f : Entry → Entry) (e : Entry) : ∀ (l : List Entry), modifyAt f l.length (l ++ [e]) = l ++ [f e]
  | [] => rfl
  | x :: l => by simp [modifyAt, modify_last f e l]
theorem store50 {h : Heap} {mb : Nat} {S : List (Nat × Nat)} {k : Nat × Nat} (hm : h.get mb = some (.map (entsF S 0 ++ [⟨keyLV k, .int .i64 0, S.length⟩]) (S.length + 1))) :
    entryStoreE (.map mb) (.int .i64 (.ofNat S.length)) (.int .i64 1) h = some (h.set mb (.map (entsF (S ++ [k]) 0) (S.length + 1))) := by
  have h1 := bornAt_app S 0 S.length 0 ⟨keyLV k, .int .i64 0, S.length⟩ (by omega) rfl
  rw [Nat.zero_add] at h1
  have h2 := modify_last (fun e => { e with val := .int .i64 1 }) ⟨keyLV k, .int .i64 0, S.length⟩ (entsF S 0)
  rw [entsF_len] at h2
  simp only [entryStoreE, asNat?, Option.bind_some, hm, h1, Option.map_some, h2]
  rw [entsF_app]
  simp [entsF]
end
end Go.Ev

namespace Go.Ev
noncomputable section
open Go.Proofs
set_option linter.unusedSimpArgs false
set_option linter.unusedVariables false
set_option maxRecDepth 10000
set_option maxHeartbeats 4000000
theorem startsF_cons {k at_ x : Nat} {cs rest : List Nat} (h : startsF k at_ cs = some (x :: rest)) : x = at_ ∧ ∃ n k', k = k' + 1 ∧ insN cs = n + 1 ∧ cs ≠ [] ∧ startsF k' (at_ + (n + 1)) (cs.drop (n + 1)) = some rest := by
  cases cs with
  | nil => cases k <;> cases h
  | cons c r =>
    cases k with
    | zero => cases h
    | succ k =>
      unfold startsF at h
      split at h
      · cases h
      · rename_i n hn
        obtain ⟨l, h1, e⟩ := mp h
        cases e
        exact ⟨rfl, n, k, rfl, hn, by simp, h1⟩
theorem startsF_ge : ∀ (k at_ : Nat) (cs l : List Nat), startsF k at_ cs = some l → ∀ x ∈ l, at_ ≤ x
  | k, at_, cs, [], _ => by simp
  | k, at_, cs, y :: l, h => by
    obtain ⟨rfl, n, k', rfl, _, _, h1⟩ := startsF_cons h
    intro x hx
    rcases List.mem_cons.1 hx with rfl | hx
    · exact Nat.le_refl _
    · have := startsF_ge k' _ _ l h1 x hx; omega
def parseW : List LV → Option (List Wd)
  | [] => some []
  | .str nm :: .int .u8 (.ofNat fl) :: cd :: rest => (codeOf cd).bind fun cs => if strOk nm ∧ fl < 256 ∧ (cs.all fun x => decide (x < 4294967296)) = true then (parseW rest).map ((nm, fl, cs) :: ·) else none
  | _ => none
def wordsOf : LV → Option (List Wd)
  | .nils => some []
  | .vs cells n => (parseW cells).bind fun ws => if ws.length = n ∧ n < 1048576 then some ws else none
  | _ => none
theorem parse_at : ∀ (cells : List LV) (ws : List Wd), parseW cells = some ws → cells.length = ws.length * 3 ∧
    ∀ (i : Nat) (w : Wd), ws[i]? = some w → ∃ cd, codeOf cd = some w.2.2 ∧ strOk w.1 ∧ w.2.1 < 256 ∧ (∀ x ∈ w.2.2, x < 4294967296) ∧ (cells.drop (i * 3)).take 3 = [.str w.1, .int .u8 (.ofNat w.2.1), cd]
  | cells, ws, h => by
    unfold parseW at h
    split at h
    · cases h; exact ⟨rfl, fun i w hi => by cases hi⟩
    · rename_i nm fl cd rest
      obtain ⟨cs, h1, h⟩ := bnd h
      split at h
      · rename_i hc
        obtain ⟨ws', h2, e⟩ := mp h
        subst e
        obtain ⟨k1, k2⟩ := parse_at rest ws' h2
        refine ⟨by simp [k1]; omega, fun i w hi => ?_⟩
        cases i with
        | zero => cases hi; exact ⟨cd, h1, hc.1, hc.2.1, fun x hx => by simpa using List.all_eq_true.1 hc.2.2 x hx, rfl⟩
        | succ i =>
          obtain ⟨cd', q1, q2, q3, q4, q5⟩ := k2 i w (by simpa using hi)
          refine ⟨cd', q1, q2, q3, q4, ?_⟩
          rw [show (i + 1) * 3 = i * 3 + 3 by omega]
          exact q5
      · cases h
    · cases h
theorem under30 : Tryz.prog.underlying 22 = some (.slice 31) := by kernel_rfl
theorem sz32 : szOf Tryz.prog 31 = some 3 := by kernel_rfl
theorem agg32 : isAggB Tryz.prog 31 = some true := by kernel_rfl
theorem zero32 : zeroLV Tryz.prog 31 = some (.agg [.str [], .int .u8 0, .nils]) := by kernel_rfl
theorem words_len {v : LV} {ws : List Wd} (h : wordsOf v = some ws) : ws.length < 1048576 ∧ ∀ hp, lenE Tryz.prog 22 v hp = some (.int .i64 (.ofNat ws.length)) := by
  unfold wordsOf at h
  split at h
  · cases h; exact ⟨by decide, fun hp => by simp only [lenE, under30, lenOf?, Option.map_some]; rfl⟩
  · rename_i cells n
    obtain ⟨ws', h1, h⟩ := bnd h
    split at h
    · rename_i hn
      cases h
      exact ⟨by omega, fun hp => by simp only [lenE, under30, lenOf?, Option.map_some, hn.1]⟩
    · cases h
  · cases h
theorem words_at {v : LV} {ws : List Wd} (h : wordsOf v = some ws) (i : Nat) (w : Wd) (hi : ws[i]? = some w) : ∃ p cd, codeOf cd = some w.2.2 ∧ strOk w.1 ∧ w.2.1 < 256 ∧ (∀ x ∈ w.2.2, x < 4294967296) ∧
    indexAddrOp Tryz.prog 22 v (.int .i64 (.ofNat i)) = some p ∧ ∀ hp, loadAt Tryz.prog 31 p hp = some (.agg [.str w.1, .int .u8 (.ofNat w.2.1), cd]) := by
  unfold wordsOf at h
  split at h
  · cases h; cases hi
  · rename_i cells n
    obtain ⟨ws', h1, h⟩ := bnd h
    split at h
    · rename_i hn
      cases h
      obtain ⟨k1, k2⟩ := parse_at _ _ h1
      obtain ⟨cd, q1, q2, q3, q4, q5⟩ := k2 i w hi
      have hlt : i < ws.length := (List.getElem?_eq_some_iff.1 hi).1
      refine ⟨.vptr (cells.drop (i * 3)), cd, q1, q2, q3, q4, ?_, fun hp => ?_⟩
      · have f1 : Nat.blt i n = true := by rw [blt_eq]; simp; omega
        have f2 : Nat.ble (i * 3) cells.length = true := by rw [ble_eq]; simp; omega
        simp only [indexAddrOp, asNat?, Option.bind_some, under30, sz32, f1, f2, Bool.and_self]
      · have f3 : Nat.ble 3 (cells.drop (i * 3)).length = true := by rw [ble_eq]; simp; omega
        simp only [loadAt, agg32, sz32, Option.bind_some, f3, q5]
    · cases h
  · cases h
theorem code_drop {cd : LV} {cs : List Nat} (h : codeOf cd = some cs) (K : Nat) (hK : K ≤ cs.length) :
    ∃ v, codeOf v = some (cs.drop K) ∧ ∀ hp, sliceAtOp Tryz.prog 29 cd (some (.int .i64 (.ofNat K))) none none hp = some v := by
  have hL := codeOf_len h
  rcases codeOf_shape h with ⟨rfl, rfl⟩ | rfl
  · have : K = 0 := by simpa using hK
    subst this
    exact ⟨.nils, rfl, fun hp => by simp only [sliceAtOp, under22, sz36, Option.bind_some]; rfl⟩
  · refine ⟨.vs (u32s (cs.drop K)) (cs.length - K), ?_, fun hp => ?_⟩
    · simp only [codeOf]
      rw [if_pos ⟨by simp [u32s], by omega⟩, mapM_u32s]
    · have hb : bounds3 cs.length cs.length (some (.int .i64 (.ofNat K))) none none = some (K, cs.length, none) := by
        have h1 : (Nat.ble cs.length cs.length && Nat.ble K cs.length) = true := by
          have a : Nat.ble K cs.length = true := by rw [ble_eq]; simp [hK]
          have b : Nat.ble cs.length cs.length = true := by rw [ble_eq]; simp
          rw [a, b]; rfl
        simp only [bounds3, optNat, asNat?, Option.bind_some, h1]
      simp only [sliceAtOp, under22, sz36, Option.bind_some, hb, Option.map_some]
      have hl : (u32s cs).length = cs.length * 1 := by simp [u32s]
      rw [← hl, List.take_length, Nat.mul_one]
      simp [u32s, List.map_drop]
theorem startsF_mem : ∀ (k at_ : Nat) (cs l : List Nat), startsF k at_ cs = some l → ∀ y ∈ l, insN (cs.drop (y - at_)) ≠ 0
  | k, at_, cs, [], _ => by simp
  | k, at_, cs, z :: l, h => by
    obtain ⟨rfl, n, k', rfl, hn, hc, h1⟩ := startsF_cons h
    intro y hy
    rcases List.mem_cons.1 hy with rfl | hy
    · rw [Nat.sub_self, List.drop_zero, hn]; simp
    · have h2 := startsF_mem k' _ _ l h1 y hy
      have h3 := startsF_ge k' _ _ l h1 y hy
      rw [List.drop_drop] at h2
      rwa [show n + 1 + (y - (z + (n + 1))) = y - z by omega] at h2
theorem startsF_lt_next : ∀ (k at_ : Nat) (cs l : List Nat), startsF k at_ cs = some l → l.Pairwise (· < ·)
  | k, at_, cs, [], _ => .nil
  | k, at_, cs, z :: l, h => by
    obtain ⟨rfl, n, k', rfl, hn, hc, h1⟩ := startsF_cons h
    refine .cons (fun y hy => ?_) (startsF_lt_next k' _ _ l h1)
    have := startsF_ge k' _ _ l h1 y hy
    omega
theorem insN_len {x : Nat} {r : List Nat} (h : insN (x :: r) ≠ 0) (hx : ¬ 256 ≤ x) : ∃ j, j < 113 ∧ spotN x = .ofNat j ∧ (rowOfTab j).2.2.2.2.1 ≤ r.length := by
  unfold insN at h
  simp only [if_neg hx] at h
  cases hs : spotN x with
  | negSucc j => rw [hs] at h; simp at h
  | ofNat j =>
    rw [hs] at h
    simp only at h
    by_cases h1 : r.length < (rowOfTab j).2.2.2.2.1
    · rw [if_pos h1] at h; exact absurd rfl h
    · exact ⟨j, spot_row hs, rfl, by omega⟩
theorem jumps_len {x : Nat} {r : List Nat} (h : insN (x :: r) ≠ 0) (hx : ¬ 256 ≤ x) (hj : jumpsN x = true) : 1 ≤ r.length := by
  obtain ⟨j, h1, h2, h3⟩ := insN_len h hx
  have hj : (rowOfTab j).2.2.2.2.2.2 = true := by simpa only [jumpsN, h2] using hj
  obtain ⟨a, nm, c, d, e, f, g, hr, _, _, _, hg⟩ := row_data j h1
  rw [hr] at hj h3
  have := hg hj
  simp only at h3; omega
theorem away_len {r : List Nat} (h : insN (139 :: r) ≠ 0) : 2 ≤ r.length := by
  obtain ⟨j, h1, h2, h3⟩ := insN_len h (by decide)
  have : spotN 139 = .ofNat 111 := rfl
  rw [this] at h2
  cases h2
  have : (rowOfTab 111).2.2.2.2.1 = 2 := by decide +kernel
  omega
theorem jumps_away : jumpsN 139 = false := by decide +kernel
/-! places -/
def placesTo (ws : List Wd) (n : Nat) : List (Nat × Nat) := (List.range n).flatMap fun j => (startsOf ws j).map fun b => (j, b)
theorem placesTo_succ (ws : List Wd) (n : Nat) : placesTo ws (n + 1) = placesTo ws n ++ (startsOf ws n).map fun b => (n, b) := by
  simp [placesTo, List.range_succ]
theorem mem_places (ws : List Wd) (n a b : Nat) : (a, b) ∈ placesTo ws n ↔ a < n ∧ b ∈ startsOf ws a := by
  simp only [placesTo, List.mem_flatMap, List.mem_range, List.mem_map, Prod.mk.injEq]
  constructor
  · rintro ⟨j, hj, c, hc, rfl, rfl⟩; exact ⟨hj, hc⟩
  · rintro ⟨h1, h2⟩; exact ⟨a, h1, b, h2, rfl, rfl⟩
theorem placeB_eq (ws : List Wd) (n a b : Nat) : placeB ws n a b = decide ((a, b) ∈ placesTo ws n) := by
  simp only [placeB, mem_places, Bool.decide_and]
theorem build52 (a b : Nat) : buildAt Tryz.prog 87 [(0, .int .u32 (.ofNat a)), (1, .int .u32 (.ofNat b))] = some (keyLV (a, b)) := by kernel_rfl
end
end Go.Ev
