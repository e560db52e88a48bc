/-
  What the table's functions of the package prim, and of the document's answer beside them, compute, by the evaluator; no conditions.
-/
import Derived.Test.YtmgmglfdoffggaaProg
import Derived.KernelRfl
import Derived.Test.YtmgmglfdoffggaaEvB
namespace Go.Ev
open Go.Proofs
set_option linter.unusedSimpArgs false
set_option linter.unusedVariables false
def tab : List (Nat × List Nat × Nat × Nat × Nat × Bool × Bool) := [(1, [68, 85, 80], 1, 2, 0, false, false),
  (2, [68, 82, 79, 80], 1, 0, 0, false, false),
  (3, [83, 87, 65, 80], 2, 2, 0, false, false),
  (4, [79, 86, 69, 82], 2, 3, 0, false, false),
  (5, [82, 79, 84], 3, 3, 0, false, false),
  (6, [63, 68, 85, 80], 1, 1, 0, false, false),
  (7, [78, 73, 80], 2, 1, 0, false, false),
  (8, [84, 85, 67, 75], 2, 3, 0, false, false),
  (9, [50, 68, 85, 80], 2, 4, 0, false, false),
  (10, [50, 68, 82, 79, 80], 2, 0, 0, false, false),
  (11, [50, 83, 87, 65, 80], 4, 4, 0, false, false),
  (12, [50, 79, 86, 69, 82], 4, 6, 0, false, false),
  (13, [68, 69, 80, 84, 72], 0, 1, 0, false, false),
  (14, [80, 73, 67, 75], 1, 1, 0, false, false),
  (15, [82, 79, 76, 76], 1, 0, 0, false, false),
  (16, [43], 2, 1, 0, false, false),
  (17, [45], 2, 1, 0, false, false),
  (18, [42], 2, 1, 0, false, false),
  (19, [47], 2, 1, 0, false, false),
  (20, [77, 79, 68], 2, 1, 0, false, false),
  (21, [47, 77, 79, 68], 2, 2, 0, false, false),
  (22, [42, 47], 3, 1, 0, false, false),
  (23, [42, 47, 77, 79, 68], 3, 2, 0, false, false),
  (24, [78, 69, 71, 65, 84, 69], 1, 1, 0, false, false),
  (25, [65, 66, 83], 1, 1, 0, false, false),
  (26, [77, 73, 78], 2, 1, 0, false, false),
  (27, [77, 65, 88], 2, 1, 0, false, false),
  (28, [49, 43], 1, 1, 0, false, false),
  (29, [49, 45], 1, 1, 0, false, false),
  (30, [50, 42], 1, 1, 0, false, false),
  (31, [50, 47], 1, 1, 0, false, false),
  (32, [85, 77, 42], 2, 2, 0, false, false),
  (33, [77, 42], 2, 2, 0, false, false),
  (34, [85, 77, 47, 77, 79, 68], 3, 2, 0, false, false),
  (35, [70, 77, 47, 77, 79, 68], 3, 2, 0, false, false),
  (36, [83, 77, 47, 82, 69, 77], 3, 2, 0, false, false),
  (37, [83, 62, 68], 1, 2, 0, false, false),
  (38, [68, 43], 4, 2, 0, false, false),
  (39, [68, 78, 69, 71, 65, 84, 69], 2, 2, 0, false, false),
  (40, [65, 78, 68], 2, 1, 0, false, false),
  (41, [79, 82], 2, 1, 0, false, false),
  (42, [88, 79, 82], 2, 1, 0, false, false),
  (43, [73, 78, 86, 69, 82, 84], 1, 1, 0, false, false),
  (44, [76, 83, 72, 73, 70, 84], 2, 1, 0, false, false),
  (45, [82, 83, 72, 73, 70, 84], 2, 1, 0, false, false),
  (46, [61], 2, 1, 0, false, false),
  (47, [60, 62], 2, 1, 0, false, false),
  (48, [60], 2, 1, 0, false, false),
  (49, [62], 2, 1, 0, false, false),
  (50, [85, 60], 2, 1, 0, false, false),
  (51, [85, 62], 2, 1, 0, false, false),
  (52, [48, 61], 1, 1, 0, false, false),
  (53, [48, 60], 1, 1, 0, false, false),
  (54, [48, 62], 1, 1, 0, false, false),
  (55, [87, 73, 84, 72, 73, 78], 3, 1, 0, false, false),
  (56, [64], 1, 1, 0, false, false),
  (57, [33], 2, 0, 0, false, false),
  (58, [67, 64], 1, 1, 0, false, false),
  (59, [67, 33], 2, 0, 0, false, false),
  (60, [43, 33], 2, 0, 0, false, false),
  (61, [50, 64], 1, 2, 0, false, false),
  (62, [50, 33], 3, 0, 0, false, false),
  (63, [77, 79, 86, 69], 3, 0, 0, false, false),
  (64, [70, 73, 76, 76], 3, 0, 0, false, false),
  (65, [67, 69, 76, 76, 43], 1, 1, 0, false, false),
  (66, [67, 69, 76, 76, 83], 1, 1, 0, false, false),
  (67, [67, 72, 65, 82, 43], 1, 1, 0, false, false),
  (68, [67, 72, 65, 82, 83], 1, 1, 0, false, false),
  (69, [65, 76, 73, 71, 78, 69, 68], 1, 1, 0, false, false),
  (70, [67, 79, 85, 78, 84], 1, 2, 0, false, false),
  (71, [62, 82], 1, 0, 0, false, false),
  (72, [82, 62], 0, 1, 0, false, false),
  (73, [82, 64], 0, 1, 0, false, false),
  (101, [69, 88, 73, 84], 0, 0, 0, false, false),
  (102, [40, 76, 73, 84, 41], 0, 1, 1, false, false),
  (103, [40, 66, 82, 65, 78, 67, 72, 41], 0, 0, 1, false, true),
  (104, [40, 48, 66, 82, 65, 78, 67, 72, 41], 1, 0, 1, false, true),
  (105, [40, 68, 79, 41], 2, 0, 0, false, false),
  (106, [40, 63, 68, 79, 41], 2, 0, 1, false, true),
  (107, [40, 76, 79, 79, 80, 41], 0, 0, 1, false, true),
  (108, [40, 43, 76, 79, 79, 80, 41], 1, 0, 1, false, true),
  (109, [73], 0, 1, 0, false, false),
  (110, [74], 0, 1, 0, false, false),
  (111, [85, 78, 76, 79, 79, 80], 0, 0, 0, false, false),
  (112, [69, 88, 69, 67, 85, 84, 69], 1, 0, 0, false, false),
  (113, [67, 65, 84, 67, 72], 1, 1, 0, false, false),
  (114, [84, 72, 82, 79, 87], 1, 0, 0, false, false),
  (115, [40, 83, 34, 41], 0, 2, 1, true, false),
  (116, [40, 46, 34, 41], 0, 0, 1, true, false),
  (117, [69, 77, 73, 84], 1, 0, 0, false, false),
  (118, [84, 89, 80, 69], 2, 0, 0, false, false),
  (119, [67, 82], 0, 0, 0, false, false),
  (120, [83, 80, 65, 67, 69], 0, 0, 0, false, false),
  (121, [83, 80, 65, 67, 69, 83], 1, 0, 0, false, false),
  (122, [72, 69, 82, 69], 0, 1, 0, false, false),
  (123, [65, 76, 76, 79, 84], 1, 0, 0, false, false),
  (124, [44], 1, 0, 0, false, false),
  (125, [67, 44], 1, 0, 0, false, false),
  (126, [65, 76, 73, 71, 78], 0, 0, 0, false, false),
  (127, [66, 65, 83, 69], 0, 1, 0, false, false),
  (128, [83, 84, 65, 84, 69], 0, 1, 0, false, false),
  (129, [60, 35], 0, 0, 0, false, false),
  (130, [35], 2, 2, 0, false, false),
  (131, [35, 83], 2, 2, 0, false, false),
  (132, [35, 62], 2, 2, 0, false, false),
  (133, [72, 79, 76, 68], 1, 0, 0, false, false),
  (134, [83, 73, 71, 78], 1, 0, 0, false, false),
  (135, [46], 1, 0, 0, false, false),
  (136, [85, 46], 1, 0, 0, false, false),
  (137, [65, 66, 79, 82, 84], 0, 0, 0, false, false),
  (138, [40, 68, 79, 69, 83, 41], 0, 0, 1, false, true),
  (139, [40, 71, 79, 41], 0, 0, 2, false, false),
  (140, [67, 82, 69, 65, 84, 69], 0, 0, 0, false, false)]
abbrev Row := Nat × List Nat × Nat × Nat × Nat × Bool × Bool
def rowLV : Row → List LV
  | (a, b, c, d, e, f, g) => [.int .u32 (.ofNat a), .str b, .int .i64 (.ofNat c), .int .i64 (.ofNat d), .int .i64 (.ofNat e), .bool f, .bool g]
def tabCells : List LV := tab.flatMap rowLV

theorem prog_ok : ProgOk Try.prog := progOk (by kernel_rfl) (by kernel_rfl)

/-! table -/
def fTable : Pure
  | [] => some (none, fun _ => .agg tabCells)
  | _ => none
theorem table_ok : PureOk Try.prog (fun _ => none) 27 fTable := pureOk_run fun vs p hp => by
  cases vs with
  | nil => cases hp; exact ⟨40, by kernel_rfl⟩
  | cons _ _ => cases hp
def ov1 : Ov := Ov.with (fun _ => none) 27 fTable
theorem ov1_ok : OvOk Try.prog ov1 := Ov.with_ok prog_ok ovNone table_ok
theorem call1_27 (run : Run) (h : Heap) : callE Try.prog ov1 run 27 [] h = some (.agg tabCells, h) := rfl

end Go.Ev

namespace Go.Ev
open Go.Proofs
set_option linter.unusedSimpArgs false
set_option linter.unusedVariables false
set_option maxHeartbeats 4000000
/-! spot -/
def spotN (n : Nat) : Int := if 1 ≤ n ∧ n ≤ 73 then Int.ofNat (n - 1) else if 101 ≤ n ∧ n < 141 then Int.ofNat (n - 101 + 73) else -1
def fSpot : Pure
  | [.int .u32 (.ofNat n)] => some (none, fun _ => .int .i64 (spotN n))
  | _ => none
theorem spot_ok : PureOk Try.prog ov1 26 fSpot := pureOk_of fun vs p hp => by
  unfold fSpot at hp
  split at hp
  · rename_i n
    cases hp
    have key : ∃ r h1, Evc Try.prog ov1 26 [.int .u32 (.ofNat n)] Heap.empty (r, h1) ∧ r = .int .i64 (spotN n) := by
      by_cases a1 : 1 ≤ n ∧ n ≤ 73
      · have e1 : Nat.blt n 1 = false := by rw [blt_eq]; simp; omega
        have e2 : Nat.blt 73 n = false := by rw [blt_eq]; simp; omega
        refine Evc.of rfl Try.func26 rfl rfl ?_
        have chk_ : True := by simp only [e1, e2, Try.underlying36, Try.underlying3]
        clear chk_
        repeat (first | refine EvP.seq ?_ | refine EvP.region ?_ | refine OpsP.nil ?_ | refine GuardP.no ?_ | refine DGuardP.no ?_ | refine DrP.nil ?_ | refine CondP.t ?_ | refine CondP.f ?_ | refine EvP.ret ?_ | refine EvP.skip ?_ | refine EvP.exit ?_ | refine EvP.block ?_ | refine EvP.scope ?_  | ((first | refine OpsP.put (v := ?_) (h1 := ?_) ?hd ?he ?_ | refine OpsP.eff (v := ?_) (h1 := ?_) ?he ?_ | refine GuardP.yes (v := ?_) (h1 := ?_) ?he ?_  | (refine DrP.put (d := ?_) (op := ?_) (t := ?_) (p := ?_) (a := ?_) (v := ?_) (h1 := ?_) ?ho ?hd ?he ?_; (case ho => rfl)) | (refine DrP.eff (op := ?_) (t := ?_) (p := ?_) (a := ?_) (v := ?_) (h1 := ?_) ?ho ?he ?_; (case ho => rfl)) | refine DGuardP.yes (v := ?_) (h1 := ?_) ?he ?_); (try case hd => rfl); (case he => intro run; ((try simp only [evOp, evA, val, vals, oval, parts, get_set, get_nil, ofArgs, ofValue, binOpE, arith, ilt, convertE, unOpE, builtinE, lenE, callV, List.nil_append, List.append_nil, Option.bind_some, Option.map_some, Nat.reduceEqDiff, reduceIte, Bool.not_true, Bool.not_false, List.getElem?_cons_zero, List.getElem?_cons_succ, List.getElem?_toArray, Array.toList, List.mapM_cons, List.mapM_nil, Option.pure_def, Option.bind_eq_bind, e1, e2, Try.underlying36, Try.underlying3]) <;> exact rfl)))  | ((first | refine OpsP.guard (x := ?_) (b := ?_) ?hj ?hx ?hd ?_ | (refine DrP.guard (d := ?_) (op := ?_) (t := ?_) (p := ?_) (a := ?_) (j := ?_) (w := ?_) (x := ?_) (b := ?_) ?ho ?hj ?hx ?hd ?_; (case ho => rfl)) | refine EvP.condB (c := ?_) ?hx ?_); (try case hj => rfl); (case hx => ((try simp only [val, get_set, get_nil, ofArgs, ofValue, Nat.reduceEqDiff, reduceIte, Option.map_some, e1, e2, Try.underlying36, Try.underlying3]) <;> exact rfl)); (try case hd => rfl)))
        refine ⟨_, rfl, ?_⟩
        simp only [oneOf, get_set, Nat.reduceEqDiff, reduceIte]
        rw [wrap_nat .i64 n (by simp only [half]; omega), show Int.ofNat n - 1 = Int.ofNat (n - 1) from nat_sub (b := 1) (by omega), wrap_nat .i64 (n - 1) (by simp only [half]; omega), spotN, if_pos a1]
      · by_cases a2 : 101 ≤ n ∧ n < 141
        · have e0 : Nat.blt n 1 = false := by rw [blt_eq]; simp; omega
          have e1 : Nat.blt 73 n = true := by rw [blt_eq]; simp; omega
          have e2 : Nat.blt n 101 = false := by rw [blt_eq]; simp; omega
          have e3 : Nat.blt n 141 = true := by rw [blt_eq]; simp; omega
          have w1 : wrap .u32 (wrap .i64 (113 - 73)) = 40 := rfl
          have w2 : wrap .u32 (101 + 40) = 141 := rfl
          refine Evc.of rfl Try.func26 rfl rfl ?_
          have chk_ : True := by simp only [e0, e1, e2, e3, Try.underlying36, Try.underlying3, call1_27, w1, w2]
          clear chk_
          repeat (first | refine EvP.seq ?_ | refine EvP.region ?_ | refine OpsP.nil ?_ | refine GuardP.no ?_ | refine DGuardP.no ?_ | refine DrP.nil ?_ | refine CondP.t ?_ | refine CondP.f ?_ | refine EvP.ret ?_ | refine EvP.skip ?_ | refine EvP.exit ?_ | refine EvP.block ?_ | refine EvP.scope ?_  | ((first | refine OpsP.put (v := ?_) (h1 := ?_) ?hd ?he ?_ | refine OpsP.eff (v := ?_) (h1 := ?_) ?he ?_ | refine GuardP.yes (v := ?_) (h1 := ?_) ?he ?_  | (refine DrP.put (d := ?_) (op := ?_) (t := ?_) (p := ?_) (a := ?_) (v := ?_) (h1 := ?_) ?ho ?hd ?he ?_; (case ho => rfl)) | (refine DrP.eff (op := ?_) (t := ?_) (p := ?_) (a := ?_) (v := ?_) (h1 := ?_) ?ho ?he ?_; (case ho => rfl)) | refine DGuardP.yes (v := ?_) (h1 := ?_) ?he ?_); (try case hd => rfl); (case he => intro run; ((try simp only [evOp, evA, val, vals, oval, parts, get_set, get_nil, ofArgs, ofValue, binOpE, arith, ilt, convertE, unOpE, builtinE, lenE, callV, List.nil_append, List.append_nil, Option.bind_some, Option.map_some, Nat.reduceEqDiff, reduceIte, Bool.not_true, Bool.not_false, List.getElem?_cons_zero, List.getElem?_cons_succ, List.getElem?_toArray, Array.toList, List.mapM_cons, List.mapM_nil, Option.pure_def, Option.bind_eq_bind, e0, e1, e2, e3, Try.underlying36, Try.underlying3, call1_27, w1, w2]) <;> exact rfl)))  | ((first | refine OpsP.guard (x := ?_) (b := ?_) ?hj ?hx ?hd ?_ | (refine DrP.guard (d := ?_) (op := ?_) (t := ?_) (p := ?_) (a := ?_) (j := ?_) (w := ?_) (x := ?_) (b := ?_) ?ho ?hj ?hx ?hd ?_; (case ho => rfl)) | refine EvP.condB (c := ?_) ?hx ?_); (try case hj => rfl); (case hx => ((try simp only [val, get_set, get_nil, ofArgs, ofValue, Nat.reduceEqDiff, reduceIte, Option.map_some, e0, e1, e2, e3, Try.underlying36, Try.underlying3, call1_27, w1, w2]) <;> exact rfl)); (try case hd => rfl)))
          refine ⟨_, rfl, ?_⟩
          simp only [oneOf, get_set, Nat.reduceEqDiff, reduceIte]
          rw [wrap_nat .i64 n (by simp only [half]; omega), show Int.ofNat n - 101 = Int.ofNat (n - 101) from nat_sub (b := 101) (by omega), wrap_nat .i64 (n - 101) (by simp only [half]; omega), show Int.ofNat (n - 101) + 73 = Int.ofNat (n - 101 + 73) from rfl,
            wrap_nat .i64 (n - 101 + 73) (by simp only [half]; omega), spotN, if_neg a1, if_pos a2]
        · have w1 : wrap .u32 (wrap .i64 (113 - 73)) = 40 := rfl
          have w2 : wrap .u32 (101 + 40) = 141 := rfl
          by_cases b1 : n < 1
          · have e0 : Nat.blt n 1 = true := by rw [blt_eq]; simp; omega
            have e1 : Nat.blt 73 n = false := by rw [blt_eq]; simp; omega
            have e2 : Nat.blt n 101 = true := by rw [blt_eq]; simp; omega
            have e3 : Nat.blt n 141 = true := by rw [blt_eq]; simp; omega
            refine Evc.of rfl Try.func26 rfl rfl ?_
            have chk_ : True := by simp only [e0, e1, e2, e3, Try.underlying36, Try.underlying3, call1_27, w1, w2]
            clear chk_
            repeat (first | refine EvP.seq ?_ | refine EvP.region ?_ | refine OpsP.nil ?_ | refine GuardP.no ?_ | refine DGuardP.no ?_ | refine DrP.nil ?_ | refine CondP.t ?_ | refine CondP.f ?_ | refine EvP.ret ?_ | refine EvP.skip ?_ | refine EvP.exit ?_ | refine EvP.block ?_ | refine EvP.scope ?_  | ((first | refine OpsP.put (v := ?_) (h1 := ?_) ?hd ?he ?_ | refine OpsP.eff (v := ?_) (h1 := ?_) ?he ?_ | refine GuardP.yes (v := ?_) (h1 := ?_) ?he ?_  | (refine DrP.put (d := ?_) (op := ?_) (t := ?_) (p := ?_) (a := ?_) (v := ?_) (h1 := ?_) ?ho ?hd ?he ?_; (case ho => rfl)) | (refine DrP.eff (op := ?_) (t := ?_) (p := ?_) (a := ?_) (v := ?_) (h1 := ?_) ?ho ?he ?_; (case ho => rfl)) | refine DGuardP.yes (v := ?_) (h1 := ?_) ?he ?_); (try case hd => rfl); (case he => intro run; ((try simp only [evOp, evA, val, vals, oval, parts, get_set, get_nil, ofArgs, ofValue, binOpE, arith, ilt, convertE, unOpE, builtinE, lenE, callV, List.nil_append, List.append_nil, Option.bind_some, Option.map_some, Nat.reduceEqDiff, reduceIte, Bool.not_true, Bool.not_false, List.getElem?_cons_zero, List.getElem?_cons_succ, List.getElem?_toArray, Array.toList, List.mapM_cons, List.mapM_nil, Option.pure_def, Option.bind_eq_bind, e0, e1, e2, e3, Try.underlying36, Try.underlying3, call1_27, w1, w2]) <;> exact rfl)))  | ((first | refine OpsP.guard (x := ?_) (b := ?_) ?hj ?hx ?hd ?_ | (refine DrP.guard (d := ?_) (op := ?_) (t := ?_) (p := ?_) (a := ?_) (j := ?_) (w := ?_) (x := ?_) (b := ?_) ?ho ?hj ?hx ?hd ?_; (case ho => rfl)) | refine EvP.condB (c := ?_) ?hx ?_); (try case hj => rfl); (case hx => ((try simp only [val, get_set, get_nil, ofArgs, ofValue, Nat.reduceEqDiff, reduceIte, Option.map_some, e0, e1, e2, e3, Try.underlying36, Try.underlying3, call1_27, w1, w2]) <;> exact rfl)); (try case hd => rfl)))
            refine ⟨_, rfl, ?_⟩
            simp only [oneOf, get_set, Nat.reduceEqDiff, reduceIte]
            rw [spotN, if_neg a1, if_neg a2]
          · have e0 : Nat.blt n 1 = false := by rw [blt_eq]; simp; omega
            have e1 : Nat.blt 73 n = true := by rw [blt_eq]; simp; omega
            by_cases b2 : n < 101
            · have e2 : Nat.blt n 101 = true := by rw [blt_eq]; simp; omega
              have e3 : Nat.blt n 141 = true := by rw [blt_eq]; simp; omega
              refine Evc.of rfl Try.func26 rfl rfl ?_
              have chk_ : True := by simp only [e0, e1, e2, e3, Try.underlying36, Try.underlying3, call1_27, w1, w2]
              clear chk_
              repeat (first | refine EvP.seq ?_ | refine EvP.region ?_ | refine OpsP.nil ?_ | refine GuardP.no ?_ | refine DGuardP.no ?_ | refine DrP.nil ?_ | refine CondP.t ?_ | refine CondP.f ?_ | refine EvP.ret ?_ | refine EvP.skip ?_ | refine EvP.exit ?_ | refine EvP.block ?_ | refine EvP.scope ?_  | ((first | refine OpsP.put (v := ?_) (h1 := ?_) ?hd ?he ?_ | refine OpsP.eff (v := ?_) (h1 := ?_) ?he ?_ | refine GuardP.yes (v := ?_) (h1 := ?_) ?he ?_  | (refine DrP.put (d := ?_) (op := ?_) (t := ?_) (p := ?_) (a := ?_) (v := ?_) (h1 := ?_) ?ho ?hd ?he ?_; (case ho => rfl)) | (refine DrP.eff (op := ?_) (t := ?_) (p := ?_) (a := ?_) (v := ?_) (h1 := ?_) ?ho ?he ?_; (case ho => rfl)) | refine DGuardP.yes (v := ?_) (h1 := ?_) ?he ?_); (try case hd => rfl); (case he => intro run; ((try simp only [evOp, evA, val, vals, oval, parts, get_set, get_nil, ofArgs, ofValue, binOpE, arith, ilt, convertE, unOpE, builtinE, lenE, callV, List.nil_append, List.append_nil, Option.bind_some, Option.map_some, Nat.reduceEqDiff, reduceIte, Bool.not_true, Bool.not_false, List.getElem?_cons_zero, List.getElem?_cons_succ, List.getElem?_toArray, Array.toList, List.mapM_cons, List.mapM_nil, Option.pure_def, Option.bind_eq_bind, e0, e1, e2, e3, Try.underlying36, Try.underlying3, call1_27, w1, w2]) <;> exact rfl)))  | ((first | refine OpsP.guard (x := ?_) (b := ?_) ?hj ?hx ?hd ?_ | (refine DrP.guard (d := ?_) (op := ?_) (t := ?_) (p := ?_) (a := ?_) (j := ?_) (w := ?_) (x := ?_) (b := ?_) ?ho ?hj ?hx ?hd ?_; (case ho => rfl)) | refine EvP.condB (c := ?_) ?hx ?_); (try case hj => rfl); (case hx => ((try simp only [val, get_set, get_nil, ofArgs, ofValue, Nat.reduceEqDiff, reduceIte, Option.map_some, e0, e1, e2, e3, Try.underlying36, Try.underlying3, call1_27, w1, w2]) <;> exact rfl)); (try case hd => rfl)))
              refine ⟨_, rfl, ?_⟩
              simp only [oneOf, get_set, Nat.reduceEqDiff, reduceIte]
              rw [spotN, if_neg a1, if_neg a2]
            · have e2 : Nat.blt n 101 = false := by rw [blt_eq]; simp; omega
              have e3 : Nat.blt n 141 = false := by rw [blt_eq]; simp; omega
              refine Evc.of rfl Try.func26 rfl rfl ?_
              have chk_ : True := by simp only [e0, e1, e2, e3, Try.underlying36, Try.underlying3, call1_27, w1, w2]
              clear chk_
              repeat (first | refine EvP.seq ?_ | refine EvP.region ?_ | refine OpsP.nil ?_ | refine GuardP.no ?_ | refine DGuardP.no ?_ | refine DrP.nil ?_ | refine CondP.t ?_ | refine CondP.f ?_ | refine EvP.ret ?_ | refine EvP.skip ?_ | refine EvP.exit ?_ | refine EvP.block ?_ | refine EvP.scope ?_  | ((first | refine OpsP.put (v := ?_) (h1 := ?_) ?hd ?he ?_ | refine OpsP.eff (v := ?_) (h1 := ?_) ?he ?_ | refine GuardP.yes (v := ?_) (h1 := ?_) ?he ?_  | (refine DrP.put (d := ?_) (op := ?_) (t := ?_) (p := ?_) (a := ?_) (v := ?_) (h1 := ?_) ?ho ?hd ?he ?_; (case ho => rfl)) | (refine DrP.eff (op := ?_) (t := ?_) (p := ?_) (a := ?_) (v := ?_) (h1 := ?_) ?ho ?he ?_; (case ho => rfl)) | refine DGuardP.yes (v := ?_) (h1 := ?_) ?he ?_); (try case hd => rfl); (case he => intro run; ((try simp only [evOp, evA, val, vals, oval, parts, get_set, get_nil, ofArgs, ofValue, binOpE, arith, ilt, convertE, unOpE, builtinE, lenE, callV, List.nil_append, List.append_nil, Option.bind_some, Option.map_some, Nat.reduceEqDiff, reduceIte, Bool.not_true, Bool.not_false, List.getElem?_cons_zero, List.getElem?_cons_succ, List.getElem?_toArray, Array.toList, List.mapM_cons, List.mapM_nil, Option.pure_def, Option.bind_eq_bind, e0, e1, e2, e3, Try.underlying36, Try.underlying3, call1_27, w1, w2]) <;> exact rfl)))  | ((first | refine OpsP.guard (x := ?_) (b := ?_) ?hj ?hx ?hd ?_ | (refine DrP.guard (d := ?_) (op := ?_) (t := ?_) (p := ?_) (a := ?_) (j := ?_) (w := ?_) (x := ?_) (b := ?_) ?ho ?hj ?hx ?hd ?_; (case ho => rfl)) | refine EvP.condB (c := ?_) ?hx ?_); (try case hj => rfl); (case hx => ((try simp only [val, get_set, get_nil, ofArgs, ofValue, Nat.reduceEqDiff, reduceIte, Option.map_some, e0, e1, e2, e3, Try.underlying36, Try.underlying3, call1_27, w1, w2]) <;> exact rfl)); (try case hd => rfl)))
              refine ⟨_, rfl, ?_⟩
              simp only [oneOf, get_set, Nat.reduceEqDiff, reduceIte]
              rw [spotN, if_neg a1, if_neg a2]
    obtain ⟨r, h1, k1, rfl⟩ := key
    exact ⟨_, h1, k1, rfl⟩
  · cases hp
end Go.Ev

namespace Go.Ev
open Go.Proofs
set_option linter.unusedSimpArgs false
set_option linter.unusedVariables false
set_option maxHeartbeats 4000000
def ov2 : Ov := ov1.with 26 fSpot
theorem ov2_ok : OvOk Try.prog ov2 := Ov.with_ok prog_ok ov1_ok spot_ok
theorem call2_27 (run : Run) (h : Heap) : callE Try.prog ov2 run 27 [] h = some (.agg tabCells, h) := rfl
theorem call2_26 (run : Run) (h : Heap) (n : Nat) : callE Try.prog ov2 run 26 [.int .u32 (.ofNat n)] h = some (.int .i64 (spotN n), h) := rfl

/-! Get -/
def noRow : List LV := [.int .u32 0, .str [], .int .i64 0, .int .i64 0, .int .i64 0, .bool false, .bool false]
def rowAt (i : Nat) : List LV := (tabCells.drop (i * 7)).take 7
theorem tab_len : tabCells.length = 791 := by kernel_rfl
theorem rowAt_ok : ∀ i, i < 113 → (rowAt i).length = 7 ∧ (rowAt i).all LV.isCell = true ∧ (rowAt i).all (bareV 9) = true := by decide +kernel
theorem index_tab (i : Nat) (hi : i < 113) : indexOp Try.prog 55 (.agg tabCells) (.int .i64 (.ofNat i)) = some (.agg (rowAt i)) := by
  have h1 : Nat.blt i 113 = true := by rw [blt_eq]; simp; omega
  have h2 : Nat.ble (i * 7 + 7) tabCells.length = true := by rw [ble_eq, tab_len]; simp; omega
  have ha : isAggB Try.prog 54 = some true := by kernel_rfl
  have hs : szOf Try.prog 54 = some 7 := by kernel_rfl
  have hu : Try.prog.underlying 55 = some (.array 113 54) := by kernel_rfl
  simp only [indexOp, asNat?, Option.bind_some, hu, hs, h1, partAt, ha, h2, rowAt]
theorem rowAt_bare : ∀ i, i < 113 → (rowAt i).all (bareV 8) = true := by decide +kernel
def getN (n : Nat) : LV := if spotN n ≥ 0 then .tuple [.agg (rowAt (spotN n).toNat), .bool true] else .tuple [.agg noRow, .bool false]
def fGet : Pure
  | [.int .u32 (.ofNat n)] => some (none, fun _ => getN n)
  | _ => none
theorem spotN_lt (n : Nat) : spotN n = -1 ∨ ∃ i, i < 113 ∧ spotN n = Int.ofNat i := by
  unfold spotN
  split
  · exact .inr ⟨n - 1, by omega, rfl⟩
  · split
    · exact .inr ⟨_, by omega, rfl⟩
    · exact .inl rfl
theorem zero39 : zeroLV Try.prog 39 = some (.agg noRow) := by kernel_rfl
theorem agg39 : isAggB Try.prog 39 = some true := by kernel_rfl
theorem sz39 : szOf Try.prog 39 = some 7 := by kernel_rfl
theorem build39 : buildAt Try.prog 39 [] = some (.agg noRow) := by kernel_rfl
theorem store_fresh {h : Heap} {b : Nat} {cs new : List LV} (hb : h.get b = some (.row cs 0 0)) (h1 : cs.length = 7) (h2 : new.length = 7) (h3 : new.all LV.isCell = true) : storeAt Try.prog 39 (.ptr b 0 0) (.agg new) h = some (h.set b (.row new 0 0)) := by
  have e1 : Nat.beq new.length 7 = true := by rw [beq_eq]; simp [h2]
  have e2 : Nat.ble (0 + new.length) cs.length = true := by rw [ble_eq]; simp; omega
  simp only [storeAt, sz39, Option.bind_some, LV.cells, e1, h3, Bool.and_self, writeN, hb, e2, Nat.beq]
  have : splice cs 0 new = new := by simp [splice, List.drop_eq_nil_of_le (show cs.length ≤ new.length by omega)]
  rw [this]
theorem load_row {h : Heap} {b : Nat} {cs : List LV} (hb : h.get b = some (.row cs 0 0)) (h1 : cs.length = 7) : loadAt Try.prog 39 (.ptr b 0 0) h = some (.agg cs) := by
  have e2 : Nat.ble (0 + 7) cs.length = true := by rw [ble_eq]; simp; omega
  simp only [loadAt, agg39, sz39, Option.bind_some, readN, hb, isHi, Nat.beq, e2, Bool.and_self, Option.map_some]
  simp [List.take_of_length_le (show cs.length ≤ 7 by omega)]
theorem get_ok : PureOk Try.prog ov2 13 fGet := pureOk_of fun vs p hp => by
  unfold fGet at hp
  split at hp
  · rename_i n
    cases hp
    have key : ∃ r h1, Evc Try.prog ov2 13 [.int .u32 (.ofNat n)] Heap.empty (r, h1) ∧ r = getN n := by
      rcases spotN_lt n with hn | ⟨i, hi, hn⟩
      · have w1 : ilt (-1) 0 = true := rfl
        refine Evc.of rfl Try.func13 rfl rfl ?_
        have chk_ : True := by simp only [zero39, LV.cells, putNew_eq, hnext_empty, call2_26, call2_27, hn, w1, build39]
        clear chk_
        repeat (first | refine EvP.seq ?_ | refine EvP.region ?_ | refine OpsP.nil ?_ | refine GuardP.no ?_ | refine DGuardP.no ?_ | refine DrP.nil ?_ | refine CondP.t ?_ | refine CondP.f ?_ | refine EvP.ret ?_ | refine EvP.skip ?_ | refine EvP.exit ?_ | refine EvP.block ?_ | refine EvP.scope ?_  | ((first | refine OpsP.put (v := ?_) (h1 := ?_) ?hd ?he ?_ | refine OpsP.eff (v := ?_) (h1 := ?_) ?he ?_ | refine GuardP.yes (v := ?_) (h1 := ?_) ?he ?_  | (refine DrP.put (d := ?_) (op := ?_) (t := ?_) (p := ?_) (a := ?_) (v := ?_) (h1 := ?_) ?ho ?hd ?he ?_; (case ho => rfl)) | (refine DrP.eff (op := ?_) (t := ?_) (p := ?_) (a := ?_) (v := ?_) (h1 := ?_) ?ho ?he ?_; (case ho => rfl)) | refine DGuardP.yes (v := ?_) (h1 := ?_) ?he ?_); (try case hd => rfl); (case he => intro run; ((try simp only [evOp, evA, val, vals, oval, parts, get_set, get_nil, ofArgs, ofValue, binOpE, arith, ilt, convertE, unOpE, builtinE, lenE, callV, List.nil_append, List.append_nil, Option.bind_some, Option.map_some, Nat.reduceEqDiff, reduceIte, Bool.not_true, Bool.not_false, List.getElem?_cons_zero, List.getElem?_cons_succ, List.getElem?_toArray, Array.toList, List.mapM_cons, List.mapM_nil, Option.pure_def, Option.bind_eq_bind, zero39, LV.cells, putNew_eq, hnext_empty, call2_26, call2_27, hn, w1, build39]) <;> exact rfl)))  | ((first | refine OpsP.guard (x := ?_) (b := ?_) ?hj ?hx ?hd ?_ | (refine DrP.guard (d := ?_) (op := ?_) (t := ?_) (p := ?_) (a := ?_) (j := ?_) (w := ?_) (x := ?_) (b := ?_) ?ho ?hj ?hx ?hd ?_; (case ho => rfl)) | refine EvP.condB (c := ?_) ?hx ?_); (try case hj => rfl); (case hx => ((try simp only [val, get_set, get_nil, ofArgs, ofValue, Nat.reduceEqDiff, reduceIte, Option.map_some, zero39, LV.cells, putNew_eq, hnext_empty, call2_26, call2_27, hn, w1, build39]) <;> exact rfl)); (try case hd => rfl)))
        refine ⟨_, rfl, ?_⟩
        simp only [getN, hn]
        rfl
      · have e1 : Nat.blt i 0 = false := by rw [blt_eq]; simp
        have hr := rowAt_ok i hi
        have st : storeAt Try.prog 39 (.ptr 0 0 0) (.agg (rowAt i)) (Heap.empty.new (.row noRow 0 0)).2 = some ((Heap.empty.new (.row noRow 0 0)).2.set 0 (.row (rowAt i) 0 0)) :=
          store_fresh (cs := noRow) (by simp only [hget_new, hnext_empty, reduceIte]) rfl hr.1 hr.2.1
        have ld : loadAt Try.prog 39 (.ptr 0 0 0) ((Heap.empty.new (.row noRow 0 0)).2.set 0 (.row (rowAt i) 0 0)) = some (.agg (rowAt i)) := load_row (by simp only [hget_set, reduceIte]) hr.1
        refine Evc.of rfl Try.func13 rfl rfl ?_
        have chk_ : True := by simp only [zero39, LV.cells, putNew_eq, hnext_empty, call2_26, call2_27, hn, e1, index_tab i hi, st]
        clear chk_
        repeat (first | refine EvP.seq ?_ | refine EvP.region ?_ | refine OpsP.nil ?_ | refine GuardP.no ?_ | refine DGuardP.no ?_ | refine DrP.nil ?_ | refine CondP.t ?_ | refine CondP.f ?_ | refine EvP.ret ?_ | refine EvP.skip ?_ | refine EvP.exit ?_ | refine EvP.block ?_ | refine EvP.scope ?_  | ((first | refine OpsP.put (v := ?_) (h1 := ?_) ?hd ?he ?_ | refine OpsP.eff (v := ?_) (h1 := ?_) ?he ?_ | refine GuardP.yes (v := ?_) (h1 := ?_) ?he ?_  | (refine DrP.put (d := ?_) (op := ?_) (t := ?_) (p := ?_) (a := ?_) (v := ?_) (h1 := ?_) ?ho ?hd ?he ?_; (case ho => rfl)) | (refine DrP.eff (op := ?_) (t := ?_) (p := ?_) (a := ?_) (v := ?_) (h1 := ?_) ?ho ?he ?_; (case ho => rfl)) | refine DGuardP.yes (v := ?_) (h1 := ?_) ?he ?_); (try case hd => rfl); (case he => intro run; ((try simp only [evOp, evA, val, vals, oval, parts, get_set, get_nil, ofArgs, ofValue, binOpE, arith, ilt, convertE, unOpE, builtinE, lenE, callV, List.nil_append, List.append_nil, Option.bind_some, Option.map_some, Nat.reduceEqDiff, reduceIte, Bool.not_true, Bool.not_false, List.getElem?_cons_zero, List.getElem?_cons_succ, List.getElem?_toArray, Array.toList, List.mapM_cons, List.mapM_nil, Option.pure_def, Option.bind_eq_bind, zero39, LV.cells, putNew_eq, hnext_empty, call2_26, call2_27, hn, e1, index_tab i hi, st]) <;> exact rfl)))  | ((first | refine OpsP.guard (x := ?_) (b := ?_) ?hj ?hx ?hd ?_ | (refine DrP.guard (d := ?_) (op := ?_) (t := ?_) (p := ?_) (a := ?_) (j := ?_) (w := ?_) (x := ?_) (b := ?_) ?ho ?hj ?hx ?hd ?_; (case ho => rfl)) | refine EvP.condB (c := ?_) ?hx ?_); (try case hj => rfl); (case hx => ((try simp only [val, get_set, get_nil, ofArgs, ofValue, Nat.reduceEqDiff, reduceIte, Option.map_some, zero39, LV.cells, putNew_eq, hnext_empty, call2_26, call2_27, hn, e1, index_tab i hi, st]) <;> exact rfl)); (try case hd => rfl)))
        refine ⟨[.agg (rowAt i), .bool true], ?_, ?_⟩
        · show resultsE Try.prog _ _ [.cell 2 39, .tmp 3] = _
          simp only [resultsE, get_set, Nat.reduceEqDiff, reduceIte, ld, Option.bind_some, Option.map_some]
        · simp only [getN, hn, oneOf]
          rfl
    obtain ⟨r, h1, k1, rfl⟩ := key
    refine ⟨_, h1, k1, ?_⟩
    have hb : bareV 10 (getN n) = true := by
      unfold getN
      rcases spotN_lt n with hn | ⟨i, hi, hn⟩
      · rw [hn]; rfl
      · have hr := (rowAt_ok i hi).2.2
        rw [hn]
        rw [if_pos (by exact Int.natCast_nonneg i)]
        show bareV 10 (.tuple [.agg (rowAt i), .bool true]) = true
        have : bareV 9 (.agg (rowAt i)) = true := by
          show (rowAt i).all (bareV 8) = true
          exact (rowAt_bare i hi)
        show (bareV 9 (.agg (rowAt i)) && (bareV 9 (.bool true) && true)) = true
        rw [this]; rfl
    simp only [giftE, hb]
  · cases hp
end Go.Ev

namespace Go.Ev
open Go.Proofs
set_option linter.unusedSimpArgs false
set_option linter.unusedVariables false
set_option maxHeartbeats 4000000
def ov3 : Ov := ov2.with 13 fGet
theorem ov3_ok : OvOk Try.prog ov3 := Ov.with_ok prog_ok ov2_ok get_ok

/-! ref: large -/
def up (c : Nat) : Nat := if 97 ≤ c ∧ c ≤ 122 then c - 97 + 65 else c
def fLarge : Pure
  | [.int .u8 (.ofNat c)] => if c < 256 then some (none, fun _ => .int .u8 (.ofNat (up c))) else none
  | _ => none
theorem large_ok : PureOk Try.prog ov3 40 fLarge := pureOk_of fun vs p hp => by
  unfold fLarge at hp
  split at hp
  · rename_i c
    split at hp
    · rename_i hc
      cases hp
      have key : ∃ r h1, Evc Try.prog ov3 40 [.int .u8 (.ofNat c)] Heap.empty (r, h1) ∧ r = .int .u8 (.ofNat (up c)) := by
        by_cases a1 : 97 ≤ c
        · have e1 : Nat.blt c 97 = false := by rw [blt_eq]; simp; omega
          by_cases a2 : c ≤ 122
          · have e2 : Nat.blt 122 c = false := by rw [blt_eq]; simp; omega
            refine Evc.of rfl Try.func40 rfl rfl ?_
            have chk_ : True := by simp only [e1, e2]
            clear chk_
            repeat (first | refine EvP.seq ?_ | refine EvP.region ?_ | refine OpsP.nil ?_ | refine GuardP.no ?_ | refine DGuardP.no ?_ | refine DrP.nil ?_ | refine CondP.t ?_ | refine CondP.f ?_ | refine EvP.ret ?_ | refine EvP.skip ?_ | refine EvP.exit ?_ | refine EvP.block ?_ | refine EvP.scope ?_  | ((first | refine OpsP.put (v := ?_) (h1 := ?_) ?hd ?he ?_ | refine OpsP.eff (v := ?_) (h1 := ?_) ?he ?_ | refine GuardP.yes (v := ?_) (h1 := ?_) ?he ?_  | (refine DrP.put (d := ?_) (op := ?_) (t := ?_) (p := ?_) (a := ?_) (v := ?_) (h1 := ?_) ?ho ?hd ?he ?_; (case ho => rfl)) | (refine DrP.eff (op := ?_) (t := ?_) (p := ?_) (a := ?_) (v := ?_) (h1 := ?_) ?ho ?he ?_; (case ho => rfl)) | refine DGuardP.yes (v := ?_) (h1 := ?_) ?he ?_); (try case hd => rfl); (case he => intro run; ((try simp only [evOp, evA, val, vals, oval, parts, get_set, get_nil, ofArgs, ofValue, binOpE, arith, ilt, convertE, unOpE, builtinE, lenE, callV, List.nil_append, List.append_nil, Option.bind_some, Option.map_some, Nat.reduceEqDiff, reduceIte, Bool.not_true, Bool.not_false, List.getElem?_cons_zero, List.getElem?_cons_succ, List.getElem?_toArray, Array.toList, List.mapM_cons, List.mapM_nil, Option.pure_def, Option.bind_eq_bind, e1, e2]) <;> exact rfl)))  | ((first | refine OpsP.guard (x := ?_) (b := ?_) ?hj ?hx ?hd ?_ | (refine DrP.guard (d := ?_) (op := ?_) (t := ?_) (p := ?_) (a := ?_) (j := ?_) (w := ?_) (x := ?_) (b := ?_) ?ho ?hj ?hx ?hd ?_; (case ho => rfl)) | refine EvP.condB (c := ?_) ?hx ?_); (try case hj => rfl); (case hx => ((try simp only [val, get_set, get_nil, ofArgs, ofValue, Nat.reduceEqDiff, reduceIte, Option.map_some, e1, e2]) <;> exact rfl)); (try case hd => rfl)))
            refine ⟨_, rfl, ?_⟩
            simp only [oneOf, get_set, Nat.reduceEqDiff, reduceIte]
            rw [show Int.ofNat c - 97 = Int.ofNat (c - 97) from nat_sub (b := 97) a1, wrap_nat .u8 (c - 97) (by simp only [half]; omega), show Int.ofNat (c - 97) + 65 = Int.ofNat (c - 97 + 65) from rfl,
              wrap_nat .u8 (c - 97 + 65) (by simp only [half]; omega), up, if_pos ⟨a1, a2⟩]
          · have e2 : Nat.blt 122 c = true := by rw [blt_eq]; simp; omega
            refine Evc.of rfl Try.func40 rfl rfl ?_
            have chk_ : True := by simp only [e1, e2]
            clear chk_
            repeat (first | refine EvP.seq ?_ | refine EvP.region ?_ | refine OpsP.nil ?_ | refine GuardP.no ?_ | refine DGuardP.no ?_ | refine DrP.nil ?_ | refine CondP.t ?_ | refine CondP.f ?_ | refine EvP.ret ?_ | refine EvP.skip ?_ | refine EvP.exit ?_ | refine EvP.block ?_ | refine EvP.scope ?_  | ((first | refine OpsP.put (v := ?_) (h1 := ?_) ?hd ?he ?_ | refine OpsP.eff (v := ?_) (h1 := ?_) ?he ?_ | refine GuardP.yes (v := ?_) (h1 := ?_) ?he ?_  | (refine DrP.put (d := ?_) (op := ?_) (t := ?_) (p := ?_) (a := ?_) (v := ?_) (h1 := ?_) ?ho ?hd ?he ?_; (case ho => rfl)) | (refine DrP.eff (op := ?_) (t := ?_) (p := ?_) (a := ?_) (v := ?_) (h1 := ?_) ?ho ?he ?_; (case ho => rfl)) | refine DGuardP.yes (v := ?_) (h1 := ?_) ?he ?_); (try case hd => rfl); (case he => intro run; ((try simp only [evOp, evA, val, vals, oval, parts, get_set, get_nil, ofArgs, ofValue, binOpE, arith, ilt, convertE, unOpE, builtinE, lenE, callV, List.nil_append, List.append_nil, Option.bind_some, Option.map_some, Nat.reduceEqDiff, reduceIte, Bool.not_true, Bool.not_false, List.getElem?_cons_zero, List.getElem?_cons_succ, List.getElem?_toArray, Array.toList, List.mapM_cons, List.mapM_nil, Option.pure_def, Option.bind_eq_bind, e1, e2]) <;> exact rfl)))  | ((first | refine OpsP.guard (x := ?_) (b := ?_) ?hj ?hx ?hd ?_ | (refine DrP.guard (d := ?_) (op := ?_) (t := ?_) (p := ?_) (a := ?_) (j := ?_) (w := ?_) (x := ?_) (b := ?_) ?ho ?hj ?hx ?hd ?_; (case ho => rfl)) | refine EvP.condB (c := ?_) ?hx ?_); (try case hj => rfl); (case hx => ((try simp only [val, get_set, get_nil, ofArgs, ofValue, Nat.reduceEqDiff, reduceIte, Option.map_some, e1, e2]) <;> exact rfl)); (try case hd => rfl)))
            refine ⟨_, rfl, ?_⟩
            simp only [oneOf, get_set, Nat.reduceEqDiff, reduceIte]
            rw [up, if_neg (by omega)]
        · have e1 : Nat.blt c 97 = true := by rw [blt_eq]; simp; omega
          refine Evc.of rfl Try.func40 rfl rfl ?_
          have chk_ : True := by simp only [e1]
          clear chk_
          repeat (first | refine EvP.seq ?_ | refine EvP.region ?_ | refine OpsP.nil ?_ | refine GuardP.no ?_ | refine DGuardP.no ?_ | refine DrP.nil ?_ | refine CondP.t ?_ | refine CondP.f ?_ | refine EvP.ret ?_ | refine EvP.skip ?_ | refine EvP.exit ?_ | refine EvP.block ?_ | refine EvP.scope ?_  | ((first | refine OpsP.put (v := ?_) (h1 := ?_) ?hd ?he ?_ | refine OpsP.eff (v := ?_) (h1 := ?_) ?he ?_ | refine GuardP.yes (v := ?_) (h1 := ?_) ?he ?_  | (refine DrP.put (d := ?_) (op := ?_) (t := ?_) (p := ?_) (a := ?_) (v := ?_) (h1 := ?_) ?ho ?hd ?he ?_; (case ho => rfl)) | (refine DrP.eff (op := ?_) (t := ?_) (p := ?_) (a := ?_) (v := ?_) (h1 := ?_) ?ho ?he ?_; (case ho => rfl)) | refine DGuardP.yes (v := ?_) (h1 := ?_) ?he ?_); (try case hd => rfl); (case he => intro run; ((try simp only [evOp, evA, val, vals, oval, parts, get_set, get_nil, ofArgs, ofValue, binOpE, arith, ilt, convertE, unOpE, builtinE, lenE, callV, List.nil_append, List.append_nil, Option.bind_some, Option.map_some, Nat.reduceEqDiff, reduceIte, Bool.not_true, Bool.not_false, List.getElem?_cons_zero, List.getElem?_cons_succ, List.getElem?_toArray, Array.toList, List.mapM_cons, List.mapM_nil, Option.pure_def, Option.bind_eq_bind, e1]) <;> exact rfl)))  | ((first | refine OpsP.guard (x := ?_) (b := ?_) ?hj ?hx ?hd ?_ | (refine DrP.guard (d := ?_) (op := ?_) (t := ?_) (p := ?_) (a := ?_) (j := ?_) (w := ?_) (x := ?_) (b := ?_) ?ho ?hj ?hx ?hd ?_; (case ho => rfl)) | refine EvP.condB (c := ?_) ?hx ?_); (try case hj => rfl); (case hx => ((try simp only [val, get_set, get_nil, ofArgs, ofValue, Nat.reduceEqDiff, reduceIte, Option.map_some, e1]) <;> exact rfl)); (try case hd => rfl)))
          refine ⟨_, rfl, ?_⟩
          simp only [oneOf, get_set, Nat.reduceEqDiff, reduceIte]
          rw [up, if_neg (by omega)]
      obtain ⟨r, h1, k1, rfl⟩ := key
      exact ⟨_, h1, k1, rfl⟩
    · cases hp
  · cases hp
end Go.Ev

namespace Go.Ev
open Go.Proofs
set_option linter.unusedSimpArgs false
set_option linter.unusedVariables false
set_option maxHeartbeats 4000000
def ov4 : Ov := ov3.with 40 fLarge
theorem ov4_ok : OvOk Try.prog ov4 := Ov.with_ok prog_ok ov3_ok large_ok
theorem call4_40 (run : Run) (h : Heap) (c : Nat) (hc : c < 256) : callE Try.prog ov4 run 40 [.int .u8 (.ofNat c)] h = some (.int .u8 (.ofNat (up c)), h) := by
  show pureCall fLarge _ h = _
  have : fLarge [.int .u8 (.ofNat c)] = some (none, fun _ => .int .u8 (.ofNat (up c))) := by unfold fLarge; simp only [hc, if_true]
  unfold pureCall
  simp only [List.mapM_cons, List.mapM_nil, freezeV]
  show ((fLarge [.int .u8 (.ofNat c)]).map (putGift h)) = _
  rw [this]
  rfl

/-! ref Alike -/
def likeL : List Nat → List Nat → Bool
  | [], [] => true
  | a :: x, b :: y => Nat.beq (up a) (up b) && likeL x y
  | _, _ => false
theorem like_len : ∀ (a b : List Nat), a.length ≠ b.length → likeL a b = false
  | [], [], h => absurd rfl h
  | [], _ :: _, _ => rfl
  | _ :: _, [], _ => rfl
  | a :: x, b :: y, h => by
    simp only [likeL, like_len x y (by simpa using h), Bool.and_false]
def fAlikeR : Pure
  | [.str a, .str b] => if (a.all (· < 256) && b.all (· < 256)) = true ∧ a.length < 2 ^ 62 ∧ b.length < 2 ^ 62 then some (none, fun _ => .bool (likeL a b)) else none
  | _ => none
theorem alikeR_body (a b : List Nat) (hA : ∀ x ∈ a, x < 256) (hB : ∀ x ∈ b, x < 256) (ha : a.length < 2 ^ 62) (hb : b.length < 2 ^ 62) : ∃ r h1, Evc Try.prog ov4 32 [.str a, .str b] Heap.empty (r, h1) ∧ r = .bool (likeL a b) := by
  by_cases hl : a.length = b.length
  · have e1 : ieq (Int.ofNat a.length) (Int.ofNat b.length) = true := by rw [ieq_eq]; simp [hl]
    have e2 : Nat.beq b.length b.length = true := by rw [beq_eq]; simp
    refine Evc.of rfl Try.func32 rfl rfl ?_
    have chk_ : True := by simp only [Try.underlying9, Try.underlying3, e1, ieq, hl, e2]
    clear chk_
    repeat (first | refine EvP.seq ?_ | refine EvP.region ?_ | refine OpsP.nil ?_ | refine GuardP.no ?_ | refine DGuardP.no ?_ | refine DrP.nil ?_ | refine CondP.t ?_ | refine CondP.f ?_ | refine EvP.ret ?_ | refine EvP.skip ?_ | refine EvP.exit ?_ | refine EvP.block ?_ | refine EvP.scope ?_  | ((first | refine OpsP.put (v := ?_) (h1 := ?_) ?hd ?he ?_ | refine OpsP.eff (v := ?_) (h1 := ?_) ?he ?_ | refine GuardP.yes (v := ?_) (h1 := ?_) ?he ?_  | (refine DrP.put (d := ?_) (op := ?_) (t := ?_) (p := ?_) (a := ?_) (v := ?_) (h1 := ?_) ?ho ?hd ?he ?_; (case ho => rfl)) | (refine DrP.eff (op := ?_) (t := ?_) (p := ?_) (a := ?_) (v := ?_) (h1 := ?_) ?ho ?he ?_; (case ho => rfl)) | refine DGuardP.yes (v := ?_) (h1 := ?_) ?he ?_); (try case hd => rfl); (case he => intro run; ((try simp only [evOp, evA, val, vals, oval, parts, get_set, get_nil, ofArgs, ofValue, binOpE, arith, ilt, convertE, unOpE, builtinE, lenE, callV, List.nil_append, List.append_nil, Option.bind_some, Option.map_some, Nat.reduceEqDiff, reduceIte, Bool.not_true, Bool.not_false, List.getElem?_cons_zero, List.getElem?_cons_succ, List.getElem?_toArray, Array.toList, List.mapM_cons, List.mapM_nil, Option.pure_def, Option.bind_eq_bind, Try.underlying9, Try.underlying3, e1, ieq, hl, e2]) <;> exact rfl)))  | ((first | refine OpsP.guard (x := ?_) (b := ?_) ?hj ?hx ?hd ?_ | (refine DrP.guard (d := ?_) (op := ?_) (t := ?_) (p := ?_) (a := ?_) (j := ?_) (w := ?_) (x := ?_) (b := ?_) ?ho ?hj ?hx ?hd ?_; (case ho => rfl)) | refine EvP.condB (c := ?_) ?hx ?_); (try case hj => rfl); (case hx => ((try simp only [val, get_set, get_nil, ofArgs, ofValue, Nat.reduceEqDiff, reduceIte, Option.map_some, Try.underlying9, Try.underlying3, e1, ieq, hl, e2]) <;> exact rfl)); (try case hd => rfl)))
    refine EvP.loop (fun m tm h => h = Heap.empty ∧ tm.get 0 = .str a ∧ tm.get 1 = .str b ∧ ∃ i, m = b.length - i ∧ i ≤ b.length ∧ tm.get 5 = .int .i64 (.ofNat i) ∧ likeL (a.drop i) (b.drop i) = likeL a b) b.length ?_ ?_
    · refine ⟨rfl, ?_, ?_, 0, rfl, Nat.zero_le _, ?_, rfl⟩
      · exact (by (try simp only [val, get_set, get_nil, ofArgs, ofValue, Nat.reduceEqDiff, reduceIte, Option.map_some]) <;> exact rfl)
      · exact (by (try simp only [val, get_set, get_nil, ofArgs, ofValue, Nat.reduceEqDiff, reduceIte, Option.map_some]) <;> exact rfl)
      · exact (by (try simp only [val, get_set, get_nil, ofArgs, ofValue, Nat.reduceEqDiff, reduceIte, Option.map_some]) <;> exact rfl)
    · rintro m tm h ⟨rfl, h0, h1, i, rfl, hi, h5, hlk⟩
      by_cases hlt : i < b.length
      · have f1 : Nat.blt i b.length = true := by rw [blt_eq]; simp; omega
        obtain ⟨x, xs, da⟩ : ∃ x xs, a.drop i = x :: xs := ⟨a[i], _, List.drop_eq_getElem_cons (by omega)⟩
        obtain ⟨y, ys, db⟩ : ∃ y ys, b.drop i = y :: ys := ⟨b[i], _, List.drop_eq_getElem_cons (by omega)⟩
        have hx : x < 256 := hA x (List.mem_of_mem_drop (da ▸ List.mem_cons_self ..))
        have hy : y < 256 := hB y (List.mem_of_mem_drop (db ▸ List.mem_cons_self ..))
        have hda : a.drop (i + 1) = xs := by rw [← List.drop_drop, da]; rfl
        have hdb : b.drop (i + 1) = ys := by rw [← List.drop_drop, db]; rfl
        have chk_ : True := by simp only [Try.underlying9, Try.underlying3, h0, h1, h5, f1, hl]
        clear chk_
        repeat (first | refine EvP.seq ?_ | refine EvP.region ?_ | refine OpsP.nil ?_ | refine GuardP.no ?_ | refine DGuardP.no ?_ | refine DrP.nil ?_ | refine CondP.t ?_ | refine CondP.f ?_ | refine EvP.ret ?_ | refine EvP.skip ?_ | refine EvP.exit ?_ | refine EvP.block ?_ | refine EvP.scope ?_  | ((first | refine OpsP.put (v := ?_) (h1 := ?_) ?hd ?he ?_ | refine OpsP.eff (v := ?_) (h1 := ?_) ?he ?_ | refine GuardP.yes (v := ?_) (h1 := ?_) ?he ?_  | (refine DrP.put (d := ?_) (op := ?_) (t := ?_) (p := ?_) (a := ?_) (v := ?_) (h1 := ?_) ?ho ?hd ?he ?_; (case ho => rfl)) | (refine DrP.eff (op := ?_) (t := ?_) (p := ?_) (a := ?_) (v := ?_) (h1 := ?_) ?ho ?he ?_; (case ho => rfl)) | refine DGuardP.yes (v := ?_) (h1 := ?_) ?he ?_); (try case hd => rfl); (case he => intro run; ((try simp only [evOp, evA, val, vals, oval, parts, get_set, get_nil, ofArgs, ofValue, binOpE, arith, ilt, convertE, unOpE, builtinE, lenE, callV, List.nil_append, List.append_nil, Option.bind_some, Option.map_some, Nat.reduceEqDiff, reduceIte, Bool.not_true, Bool.not_false, List.getElem?_cons_zero, List.getElem?_cons_succ, List.getElem?_toArray, Array.toList, List.mapM_cons, List.mapM_nil, Option.pure_def, Option.bind_eq_bind, Try.underlying9, Try.underlying3, h0, h1, h5, f1, hl]) <;> exact rfl)))  | ((first | refine OpsP.guard (x := ?_) (b := ?_) ?hj ?hx ?hd ?_ | (refine DrP.guard (d := ?_) (op := ?_) (t := ?_) (p := ?_) (a := ?_) (j := ?_) (w := ?_) (x := ?_) (b := ?_) ?ho ?hj ?hx ?hd ?_; (case ho => rfl)) | refine EvP.condB (c := ?_) ?hx ?_); (try case hj => rfl); (case hx => ((try simp only [val, get_set, get_nil, ofArgs, ofValue, Nat.reduceEqDiff, reduceIte, Option.map_some, Try.underlying9, Try.underlying3, h0, h1, h5, f1, hl]) <;> exact rfl)); (try case hd => rfl)))
        refine EvP.draw (ord := [0, 1, 2, 4, 5, 6, 3, 7, 8]) ⟨rfl, rfl, by kernel_rfl, by kernel_rfl⟩ ?_
        have chk_ : True := by simp only [Try.underlying9, Try.underlying3, h0, h1, h5, f1, hl, indexOp, asNat?, da, db, call4_40 _ _ x hx, call4_40 _ _ y hy]
        clear chk_
        repeat (first | refine EvP.seq ?_ | refine EvP.region ?_ | refine OpsP.nil ?_ | refine GuardP.no ?_ | refine DGuardP.no ?_ | refine DrP.nil ?_ | refine CondP.t ?_ | refine CondP.f ?_ | refine EvP.ret ?_ | refine EvP.skip ?_ | refine EvP.exit ?_ | refine EvP.block ?_ | refine EvP.scope ?_  | ((first | refine OpsP.put (v := ?_) (h1 := ?_) ?hd ?he ?_ | refine OpsP.eff (v := ?_) (h1 := ?_) ?he ?_ | refine GuardP.yes (v := ?_) (h1 := ?_) ?he ?_  | (refine DrP.put (d := ?_) (op := ?_) (t := ?_) (p := ?_) (a := ?_) (v := ?_) (h1 := ?_) ?ho ?hd ?he ?_; (case ho => rfl)) | (refine DrP.eff (op := ?_) (t := ?_) (p := ?_) (a := ?_) (v := ?_) (h1 := ?_) ?ho ?he ?_; (case ho => rfl)) | refine DGuardP.yes (v := ?_) (h1 := ?_) ?he ?_); (try case hd => rfl); (case he => intro run; ((try simp only [evOp, evA, val, vals, oval, parts, get_set, get_nil, ofArgs, ofValue, binOpE, arith, ilt, convertE, unOpE, builtinE, lenE, callV, List.nil_append, List.append_nil, Option.bind_some, Option.map_some, Nat.reduceEqDiff, reduceIte, Bool.not_true, Bool.not_false, List.getElem?_cons_zero, List.getElem?_cons_succ, List.getElem?_toArray, Array.toList, List.mapM_cons, List.mapM_nil, Option.pure_def, Option.bind_eq_bind, Try.underlying9, Try.underlying3, h0, h1, h5, f1, hl, indexOp, asNat?, da, db, call4_40 _ _ x hx, call4_40 _ _ y hy]) <;> exact rfl)))  | ((first | refine OpsP.guard (x := ?_) (b := ?_) ?hj ?hx ?hd ?_ | (refine DrP.guard (d := ?_) (op := ?_) (t := ?_) (p := ?_) (a := ?_) (j := ?_) (w := ?_) (x := ?_) (b := ?_) ?ho ?hj ?hx ?hd ?_; (case ho => rfl)) | refine EvP.condB (c := ?_) ?hx ?_); (try case hj => rfl); (case hx => ((try simp only [val, get_set, get_nil, ofArgs, ofValue, Nat.reduceEqDiff, reduceIte, Option.map_some, Try.underlying9, Try.underlying3, h0, h1, h5, f1, hl, indexOp, asNat?, da, db, call4_40 _ _ x hx, call4_40 _ _ y hy]) <;> exact rfl)); (try case hd => rfl)))
        refine ⟨fun run => chk_free (by kernel_rfl) _ rfl, ?_⟩
        have chk_ : True := by simp only [Try.underlying9, Try.underlying3, h0, h1, h5, f1, hl, ieq]
        clear chk_
        repeat (first | refine EvP.seq ?_ | refine EvP.region ?_ | refine OpsP.nil ?_ | refine GuardP.no ?_ | refine DGuardP.no ?_ | refine DrP.nil ?_ | refine CondP.t ?_ | refine CondP.f ?_ | refine EvP.ret ?_ | refine EvP.skip ?_ | refine EvP.exit ?_ | refine EvP.block ?_ | refine EvP.scope ?_  | ((first | refine OpsP.put (v := ?_) (h1 := ?_) ?hd ?he ?_ | refine OpsP.eff (v := ?_) (h1 := ?_) ?he ?_ | refine GuardP.yes (v := ?_) (h1 := ?_) ?he ?_  | (refine DrP.put (d := ?_) (op := ?_) (t := ?_) (p := ?_) (a := ?_) (v := ?_) (h1 := ?_) ?ho ?hd ?he ?_; (case ho => rfl)) | (refine DrP.eff (op := ?_) (t := ?_) (p := ?_) (a := ?_) (v := ?_) (h1 := ?_) ?ho ?he ?_; (case ho => rfl)) | refine DGuardP.yes (v := ?_) (h1 := ?_) ?he ?_); (try case hd => rfl); (case he => intro run; ((try simp only [evOp, evA, val, vals, oval, parts, get_set, get_nil, ofArgs, ofValue, binOpE, arith, ilt, convertE, unOpE, builtinE, lenE, callV, List.nil_append, List.append_nil, Option.bind_some, Option.map_some, Nat.reduceEqDiff, reduceIte, Bool.not_true, Bool.not_false, List.getElem?_cons_zero, List.getElem?_cons_succ, List.getElem?_toArray, Array.toList, List.mapM_cons, List.mapM_nil, Option.pure_def, Option.bind_eq_bind, Try.underlying9, Try.underlying3, h0, h1, h5, f1, hl, ieq]) <;> exact rfl)))  | ((first | refine OpsP.guard (x := ?_) (b := ?_) ?hj ?hx ?hd ?_ | (refine DrP.guard (d := ?_) (op := ?_) (t := ?_) (p := ?_) (a := ?_) (j := ?_) (w := ?_) (x := ?_) (b := ?_) ?ho ?hj ?hx ?hd ?_; (case ho => rfl)) | refine EvP.condB (c := ?_) ?hx ?_); (try case hj => rfl); (case hx => ((try simp only [val, get_set, get_nil, ofArgs, ofValue, Nat.reduceEqDiff, reduceIte, Option.map_some, Try.underlying9, Try.underlying3, h0, h1, h5, f1, hl, ieq]) <;> exact rfl)); (try case hd => rfl)))
        cases hxy : Nat.beq (up x) (up y) with
        | true =>
          have chk_ : True := by simp only [Try.underlying9, Try.underlying3, h0, h1, h5, f1, hl, ieq]
          clear chk_
          repeat (first | refine EvP.seq ?_ | refine EvP.region ?_ | refine OpsP.nil ?_ | refine GuardP.no ?_ | refine DGuardP.no ?_ | refine DrP.nil ?_ | refine CondP.t ?_ | refine CondP.f ?_ | refine EvP.ret ?_ | refine EvP.skip ?_ | refine EvP.exit ?_ | refine EvP.block ?_ | refine EvP.scope ?_  | ((first | refine OpsP.put (v := ?_) (h1 := ?_) ?hd ?he ?_ | refine OpsP.eff (v := ?_) (h1 := ?_) ?he ?_ | refine GuardP.yes (v := ?_) (h1 := ?_) ?he ?_  | (refine DrP.put (d := ?_) (op := ?_) (t := ?_) (p := ?_) (a := ?_) (v := ?_) (h1 := ?_) ?ho ?hd ?he ?_; (case ho => rfl)) | (refine DrP.eff (op := ?_) (t := ?_) (p := ?_) (a := ?_) (v := ?_) (h1 := ?_) ?ho ?he ?_; (case ho => rfl)) | refine DGuardP.yes (v := ?_) (h1 := ?_) ?he ?_); (try case hd => rfl); (case he => intro run; ((try simp only [evOp, evA, val, vals, oval, parts, get_set, get_nil, ofArgs, ofValue, binOpE, arith, ilt, convertE, unOpE, builtinE, lenE, callV, List.nil_append, List.append_nil, Option.bind_some, Option.map_some, Nat.reduceEqDiff, reduceIte, Bool.not_true, Bool.not_false, List.getElem?_cons_zero, List.getElem?_cons_succ, List.getElem?_toArray, Array.toList, List.mapM_cons, List.mapM_nil, Option.pure_def, Option.bind_eq_bind, Try.underlying9, Try.underlying3, h0, h1, h5, f1, hl, ieq]) <;> exact rfl)))  | ((first | refine OpsP.guard (x := ?_) (b := ?_) ?hj ?hx ?hd ?_ | (refine DrP.guard (d := ?_) (op := ?_) (t := ?_) (p := ?_) (a := ?_) (j := ?_) (w := ?_) (x := ?_) (b := ?_) ?ho ?hj ?hx ?hd ?_; (case ho => rfl)) | refine EvP.condB (c := ?_) ?hx ?_); (try case hj => rfl); (case hx => ((try simp only [val, get_set, get_nil, ofArgs, ofValue, Nat.reduceEqDiff, reduceIte, Option.map_some, Try.underlying9, Try.underlying3, h0, h1, h5, f1, hl, ieq]) <;> exact rfl)); (try case hd => rfl)))
          refine ⟨b.length - (i + 1), by omega, rfl, ?_, ?_, i + 1, rfl, by omega, ?_, ?_⟩
          · exact (by (try simp only [val, get_set, get_nil, ofArgs, ofValue, Nat.reduceEqDiff, reduceIte, Option.map_some, h0]) <;> exact rfl)
          · exact (by (try simp only [val, get_set, get_nil, ofArgs, ofValue, Nat.reduceEqDiff, reduceIte, Option.map_some, h1]) <;> exact rfl)
          · simp only [get_set, Nat.reduceEqDiff, reduceIte]
            rw [show Int.ofNat i + 1 = Int.ofNat (i + 1) from rfl, wrap_nat .i64 (i + 1) (by simp only [half]; omega)]
          · rw [hda, hdb, ← hlk, da, db]
            simp only [likeL, hxy, Bool.true_and]
        | false =>
          have chk_ : True := by simp only [Try.underlying9, Try.underlying3, h0, h1, h5, f1, hl, ieq]
          clear chk_
          repeat (first | refine EvP.seq ?_ | refine EvP.region ?_ | refine OpsP.nil ?_ | refine GuardP.no ?_ | refine DGuardP.no ?_ | refine DrP.nil ?_ | refine CondP.t ?_ | refine CondP.f ?_ | refine EvP.ret ?_ | refine EvP.skip ?_ | refine EvP.exit ?_ | refine EvP.block ?_ | refine EvP.scope ?_  | ((first | refine OpsP.put (v := ?_) (h1 := ?_) ?hd ?he ?_ | refine OpsP.eff (v := ?_) (h1 := ?_) ?he ?_ | refine GuardP.yes (v := ?_) (h1 := ?_) ?he ?_  | (refine DrP.put (d := ?_) (op := ?_) (t := ?_) (p := ?_) (a := ?_) (v := ?_) (h1 := ?_) ?ho ?hd ?he ?_; (case ho => rfl)) | (refine DrP.eff (op := ?_) (t := ?_) (p := ?_) (a := ?_) (v := ?_) (h1 := ?_) ?ho ?he ?_; (case ho => rfl)) | refine DGuardP.yes (v := ?_) (h1 := ?_) ?he ?_); (try case hd => rfl); (case he => intro run; ((try simp only [evOp, evA, val, vals, oval, parts, get_set, get_nil, ofArgs, ofValue, binOpE, arith, ilt, convertE, unOpE, builtinE, lenE, callV, List.nil_append, List.append_nil, Option.bind_some, Option.map_some, Nat.reduceEqDiff, reduceIte, Bool.not_true, Bool.not_false, List.getElem?_cons_zero, List.getElem?_cons_succ, List.getElem?_toArray, Array.toList, List.mapM_cons, List.mapM_nil, Option.pure_def, Option.bind_eq_bind, Try.underlying9, Try.underlying3, h0, h1, h5, f1, hl, ieq]) <;> exact rfl)))  | ((first | refine OpsP.guard (x := ?_) (b := ?_) ?hj ?hx ?hd ?_ | (refine DrP.guard (d := ?_) (op := ?_) (t := ?_) (p := ?_) (a := ?_) (j := ?_) (w := ?_) (x := ?_) (b := ?_) ?ho ?hj ?hx ?hd ?_; (case ho => rfl)) | refine EvP.condB (c := ?_) ?hx ?_); (try case hj => rfl); (case hx => ((try simp only [val, get_set, get_nil, ofArgs, ofValue, Nat.reduceEqDiff, reduceIte, Option.map_some, Try.underlying9, Try.underlying3, h0, h1, h5, f1, hl, ieq]) <;> exact rfl)); (try case hd => rfl)))
          refine ⟨_, rfl, ?_⟩
          simp only [oneOf, get_set, Nat.reduceEqDiff, reduceIte]
          rw [← hlk, da, db]
          simp only [likeL, hxy, Bool.false_and]
      · have f1 : Nat.blt i b.length = false := by rw [blt_eq]; simp; omega
        have chk_ : True := by simp only [Try.underlying9, Try.underlying3, h0, h1, h5, f1, hl]
        clear chk_
        repeat (first | refine EvP.seq ?_ | refine EvP.region ?_ | refine OpsP.nil ?_ | refine GuardP.no ?_ | refine DGuardP.no ?_ | refine DrP.nil ?_ | refine CondP.t ?_ | refine CondP.f ?_ | refine EvP.ret ?_ | refine EvP.skip ?_ | refine EvP.exit ?_ | refine EvP.block ?_ | refine EvP.scope ?_  | ((first | refine OpsP.put (v := ?_) (h1 := ?_) ?hd ?he ?_ | refine OpsP.eff (v := ?_) (h1 := ?_) ?he ?_ | refine GuardP.yes (v := ?_) (h1 := ?_) ?he ?_  | (refine DrP.put (d := ?_) (op := ?_) (t := ?_) (p := ?_) (a := ?_) (v := ?_) (h1 := ?_) ?ho ?hd ?he ?_; (case ho => rfl)) | (refine DrP.eff (op := ?_) (t := ?_) (p := ?_) (a := ?_) (v := ?_) (h1 := ?_) ?ho ?he ?_; (case ho => rfl)) | refine DGuardP.yes (v := ?_) (h1 := ?_) ?he ?_); (try case hd => rfl); (case he => intro run; ((try simp only [evOp, evA, val, vals, oval, parts, get_set, get_nil, ofArgs, ofValue, binOpE, arith, ilt, convertE, unOpE, builtinE, lenE, callV, List.nil_append, List.append_nil, Option.bind_some, Option.map_some, Nat.reduceEqDiff, reduceIte, Bool.not_true, Bool.not_false, List.getElem?_cons_zero, List.getElem?_cons_succ, List.getElem?_toArray, Array.toList, List.mapM_cons, List.mapM_nil, Option.pure_def, Option.bind_eq_bind, Try.underlying9, Try.underlying3, h0, h1, h5, f1, hl]) <;> exact rfl)))  | ((first | refine OpsP.guard (x := ?_) (b := ?_) ?hj ?hx ?hd ?_ | (refine DrP.guard (d := ?_) (op := ?_) (t := ?_) (p := ?_) (a := ?_) (j := ?_) (w := ?_) (x := ?_) (b := ?_) ?ho ?hj ?hx ?hd ?_; (case ho => rfl)) | refine EvP.condB (c := ?_) ?hx ?_); (try case hj => rfl); (case hx => ((try simp only [val, get_set, get_nil, ofArgs, ofValue, Nat.reduceEqDiff, reduceIte, Option.map_some, Try.underlying9, Try.underlying3, h0, h1, h5, f1, hl]) <;> exact rfl)); (try case hd => rfl)))
        refine ⟨_, rfl, ?_⟩
        simp only [oneOf, get_set, Nat.reduceEqDiff, reduceIte]
        rw [← hlk, List.drop_eq_nil_of_le (by omega), List.drop_eq_nil_of_le (by omega)]
        rfl
  · have e1 : Nat.beq a.length b.length = false := by rw [beq_eq]; simp [hl]
    refine Evc.of rfl Try.func32 rfl rfl ?_
    have chk_ : True := by simp only [Try.underlying9, Try.underlying3, e1, ieq]
    clear chk_
    repeat (first | refine EvP.seq ?_ | refine EvP.region ?_ | refine OpsP.nil ?_ | refine GuardP.no ?_ | refine DGuardP.no ?_ | refine DrP.nil ?_ | refine CondP.t ?_ | refine CondP.f ?_ | refine EvP.ret ?_ | refine EvP.skip ?_ | refine EvP.exit ?_ | refine EvP.block ?_ | refine EvP.scope ?_  | ((first | refine OpsP.put (v := ?_) (h1 := ?_) ?hd ?he ?_ | refine OpsP.eff (v := ?_) (h1 := ?_) ?he ?_ | refine GuardP.yes (v := ?_) (h1 := ?_) ?he ?_  | (refine DrP.put (d := ?_) (op := ?_) (t := ?_) (p := ?_) (a := ?_) (v := ?_) (h1 := ?_) ?ho ?hd ?he ?_; (case ho => rfl)) | (refine DrP.eff (op := ?_) (t := ?_) (p := ?_) (a := ?_) (v := ?_) (h1 := ?_) ?ho ?he ?_; (case ho => rfl)) | refine DGuardP.yes (v := ?_) (h1 := ?_) ?he ?_); (try case hd => rfl); (case he => intro run; ((try simp only [evOp, evA, val, vals, oval, parts, get_set, get_nil, ofArgs, ofValue, binOpE, arith, ilt, convertE, unOpE, builtinE, lenE, callV, List.nil_append, List.append_nil, Option.bind_some, Option.map_some, Nat.reduceEqDiff, reduceIte, Bool.not_true, Bool.not_false, List.getElem?_cons_zero, List.getElem?_cons_succ, List.getElem?_toArray, Array.toList, List.mapM_cons, List.mapM_nil, Option.pure_def, Option.bind_eq_bind, Try.underlying9, Try.underlying3, e1, ieq]) <;> exact rfl)))  | ((first | refine OpsP.guard (x := ?_) (b := ?_) ?hj ?hx ?hd ?_ | (refine DrP.guard (d := ?_) (op := ?_) (t := ?_) (p := ?_) (a := ?_) (j := ?_) (w := ?_) (x := ?_) (b := ?_) ?ho ?hj ?hx ?hd ?_; (case ho => rfl)) | refine EvP.condB (c := ?_) ?hx ?_); (try case hj => rfl); (case hx => ((try simp only [val, get_set, get_nil, ofArgs, ofValue, Nat.reduceEqDiff, reduceIte, Option.map_some, Try.underlying9, Try.underlying3, e1, ieq]) <;> exact rfl)); (try case hd => rfl)))
    refine ⟨_, rfl, ?_⟩
    simp only [oneOf, get_set, Nat.reduceEqDiff, reduceIte]
    rw [like_len a b hl]
end Go.Ev

namespace Go.Ev
open Go.Proofs
set_option linter.unusedSimpArgs false
set_option linter.unusedVariables false
set_option maxHeartbeats 4000000
theorem alikeR_ok : PureOk Try.prog ov4 32 fAlikeR := pureOk_of fun vs p hp => by
  unfold fAlikeR at hp
  split at hp
  · rename_i a b
    split at hp
    · rename_i hc
      cases hp
      obtain ⟨h1, h2, h3⟩ := hc
      rw [Bool.and_eq_true] at h1
      obtain ⟨r, h, k1, rfl⟩ := alikeR_body a b (fun x hx => by simpa using List.all_eq_true.1 h1.1 x hx) (fun x hx => by simpa using List.all_eq_true.1 h1.2 x hx) h2 h3
      exact ⟨_, h, k1, rfl⟩
    · cases hp
  · cases hp
def ov5 : Ov := ov4.with 32 fAlikeR
theorem ov5_ok : OvOk Try.prog ov5 := Ov.with_ok prog_ok ov4_ok alikeR_ok

/-! bytes.Equal -/
def fEqual : Pure
  | [.vs ca n, .vs cb m] => if Nat.beq ca.length n = true ∧ Nat.beq cb.length m = true then (bytes? ca).bind fun a => (bytes? cb).map fun b => (none, fun _ => .bool (listBeq a b)) else none
  | _ => none
theorem equal_ok : PureOk Try.prog ov5 38 fEqual := pureOk_of fun vs p hp => by
  unfold fEqual at hp
  split at hp
  · rename_i ca n cb m
    split at hp
    · rename_i hc
      obtain ⟨hn, hm⟩ := hc
      obtain ⟨a, ha, hp⟩ := bnd hp
      obtain ⟨b, hb, e⟩ := mp hp
      cases e
      have key : ∃ r h1, Evc Try.prog ov5 38 [.vs ca n, .vs cb m] Heap.empty (r, h1) ∧ r = .bool (listBeq a b) := by
        refine Evc.of rfl Try.func38 rfl rfl ?_
        have chk_ : True := by simp only [Try.underlying35, Try.underlying9, Try.underlying5, lenOf?, viewCells, hn, hm, ha, hb, strOp]
        clear chk_
        repeat (first | refine EvP.seq ?_ | refine EvP.region ?_ | refine OpsP.nil ?_ | refine GuardP.no ?_ | refine DGuardP.no ?_ | refine DrP.nil ?_ | refine CondP.t ?_ | refine CondP.f ?_ | refine EvP.ret ?_ | refine EvP.skip ?_ | refine EvP.exit ?_ | refine EvP.block ?_ | refine EvP.scope ?_  | ((first | refine OpsP.put (v := ?_) (h1 := ?_) ?hd ?he ?_ | refine OpsP.eff (v := ?_) (h1 := ?_) ?he ?_ | refine GuardP.yes (v := ?_) (h1 := ?_) ?he ?_  | (refine DrP.put (d := ?_) (op := ?_) (t := ?_) (p := ?_) (a := ?_) (v := ?_) (h1 := ?_) ?ho ?hd ?he ?_; (case ho => rfl)) | (refine DrP.eff (op := ?_) (t := ?_) (p := ?_) (a := ?_) (v := ?_) (h1 := ?_) ?ho ?he ?_; (case ho => rfl)) | refine DGuardP.yes (v := ?_) (h1 := ?_) ?he ?_); (try case hd => rfl); (case he => intro run; ((try simp only [evOp, evA, val, vals, oval, parts, get_set, get_nil, ofArgs, ofValue, binOpE, arith, ilt, convertE, unOpE, builtinE, lenE, callV, List.nil_append, List.append_nil, Option.bind_some, Option.map_some, Nat.reduceEqDiff, reduceIte, Bool.not_true, Bool.not_false, List.getElem?_cons_zero, List.getElem?_cons_succ, List.getElem?_toArray, Array.toList, List.mapM_cons, List.mapM_nil, Option.pure_def, Option.bind_eq_bind, Try.underlying35, Try.underlying9, Try.underlying5, lenOf?, viewCells, hn, hm, ha, hb, strOp]) <;> exact rfl)))  | ((first | refine OpsP.guard (x := ?_) (b := ?_) ?hj ?hx ?hd ?_ | (refine DrP.guard (d := ?_) (op := ?_) (t := ?_) (p := ?_) (a := ?_) (j := ?_) (w := ?_) (x := ?_) (b := ?_) ?ho ?hj ?hx ?hd ?_; (case ho => rfl)) | refine EvP.condB (c := ?_) ?hx ?_); (try case hj => rfl); (case hx => ((try simp only [val, get_set, get_nil, ofArgs, ofValue, Nat.reduceEqDiff, reduceIte, Option.map_some, Try.underlying35, Try.underlying9, Try.underlying5, lenOf?, viewCells, hn, hm, ha, hb, strOp]) <;> exact rfl)); (try case hd => rfl)))
        refine ⟨_, rfl, ?_⟩
        simp only [oneOf, get_set, Nat.reduceEqDiff, reduceIte]
      obtain ⟨r, h1, k1, rfl⟩ := key
      exact ⟨_, h1, k1, rfl⟩
    · cases hp
  · cases hp
def ov6 : Ov := ov5.with 38 fEqual
theorem ov6_ok : OvOk Try.prog ov6 := Ov.with_ok prog_ok ov5_ok equal_ok

/-! tableAll -/
def fTableAll : Pure
  | [] => some (some (.row tabCells 0 0), fun id => .slice id 0 0 113 (some 113) 7)
  | _ => none
theorem tableAll_ok : PureOk Try.prog ov6 31 fTableAll := pureOk_run fun vs p hp => by
  cases vs with
  | nil => cases hp; exact ⟨300, by kernel_rfl⟩
  | cons _ _ => cases hp
def ov7 : Ov := ov6.with 31 fTableAll
theorem ov7_ok : OvOk Try.prog ov7 := Ov.with_ok prog_ok ov6_ok tableAll_ok
end Go.Ev

namespace Go.Ev
open Go.Proofs
set_option linter.unusedSimpArgs false
set_option linter.unusedVariables false
set_option maxHeartbeats 4000000
def u8s (s : List Nat) : List LV := s.map fun b => .int .u8 (.ofNat b)
theorem u8s_len (s : List Nat) : (u8s s).length = s.length := by simp [u8s]
theorem conv_bytes (s : List Nat) (h : Heap) : convertE Try.prog 9 35 (.str s) h = some (.slice h.next 0 0 s.length none 1, (h.new (.row (u8s s) 0 0)).2) := by
  simp only [convertE, Try.underlying9, Try.underlying35, Try.underlying5]
  rfl
theorem agg5 : isAggB Try.prog 5 = some false := by kernel_rfl
theorem sz5 : szOf Try.prog 5 = some 1 := by kernel_rfl
theorem indexAddr35 (b n i : Nat) (hi : i < n) : indexAddrOp Try.prog 35 (.slice b 0 0 n none 1) (.int .i64 (.ofNat i)) = some (.ptr b 0 i) := by
  have e : Nat.blt i n = true := by rw [blt_eq]; simp; omega
  simp only [indexAddrOp, asNat?, Option.bind_some, Try.underlying35, sz5, e, Nat.beq, Bool.and_self, Nat.zero_add, Nat.mul_one]
theorem load5 {h : Heap} {b i : Nat} {cs : List LV} {v : LV} (hb : h.get b = some (.row cs 0 0)) (hi : cs[i]? = some v) : loadAt Try.prog 5 (.ptr b 0 i) h = some v := by
  have hlt : i < cs.length := by
    rcases Nat.lt_or_ge i cs.length with k | k
    · exact k
    · rw [List.getElem?_eq_none k] at hi; cases hi
  have e : Nat.ble (i + 1) cs.length = true := by rw [ble_eq]; simp; omega
  simp only [loadAt, agg5, readN, hb, isHi, Nat.beq, e, Bool.and_self, Option.bind_some]
  rw [List.getElem?_eq_getElem hlt] at hi
  rw [List.drop_eq_getElem_cons hlt]
  show (List.take 1 (cs[i] :: List.drop (i + 1) cs)).head? = some v
  rw [List.take_succ_cons]
  exact hi
theorem store5 {h : Heap} {b i : Nat} {cs : List LV} {v : LV} (hb : h.get b = some (.row cs 0 0)) (hi : i < cs.length) (hv : v.cells = [v]) (hc : v.isCell = true) : storeAt Try.prog 5 (.ptr b 0 i) v h = some (h.set b (.row (cs.set i v) 0 0)) := by
  have e : Nat.ble (i + 1) cs.length = true := by rw [ble_eq]; simp; omega
  have hs : splice cs i [v] = cs.set i v := by
    simp only [splice, List.length_cons, List.length_nil, Nat.zero_add]
    rw [List.set_eq_take_append_cons_drop, if_pos hi]
    simp
  simp only [storeAt, sz5, Option.bind_some, hv, List.length_cons, List.length_nil, Nat.zero_add, Nat.beq, List.all_cons, List.all_nil, hc, Bool.and_self, writeN, hb, e, hs]
theorem andNot_up : ∀ c, c < 256 → 97 ≤ c → c ≤ 122 → unwrapU .u8 (Nat.land (bitsOf .u8 (Int.ofNat c)) (pow2 .u8 - 1 - bitsOf .u8 32)) = Int.ofNat (up c) := by decide +kernel

/-! image.large -/
def fLargeS : Pure
  | [.str s] => if s.all (· < 256) = true ∧ s.length < 2 ^ 62 then some (some (.row (u8s (s.map up)) 0 0), fun id => .slice id 0 0 s.length none 1) else none
  | _ => none
theorem largeS_body (s : List Nat) (hA : ∀ x ∈ s, x < 256) (hl : s.length < 2 ^ 62) : ∃ r h1, Evc Try.prog ov7 39 [.str s] Heap.empty (r, h1) ∧ r = .slice 0 0 0 s.length none 1 ∧ h1.get 0 = some (.row (u8s (s.map up)) 0 0) := by
  refine Evc.of rfl Try.func39 rfl rfl ?_
  have chk_ : True := by simp only [Try.underlying9, Try.underlying35, Try.underlying3, conv_bytes, hnext_empty, lenOf?]
  clear chk_
  repeat (first | refine EvP.seq ?_ | refine EvP.region ?_ | refine OpsP.nil ?_ | refine GuardP.no ?_ | refine DGuardP.no ?_ | refine DrP.nil ?_ | refine CondP.t ?_ | refine CondP.f ?_ | refine EvP.ret ?_ | refine EvP.skip ?_ | refine EvP.exit ?_ | refine EvP.block ?_ | refine EvP.scope ?_  | ((first | refine OpsP.put (v := ?_) (h1 := ?_) ?hd ?he ?_ | refine OpsP.eff (v := ?_) (h1 := ?_) ?he ?_ | refine GuardP.yes (v := ?_) (h1 := ?_) ?he ?_  | (refine DrP.put (d := ?_) (op := ?_) (t := ?_) (p := ?_) (a := ?_) (v := ?_) (h1 := ?_) ?ho ?hd ?he ?_; (case ho => rfl)) | (refine DrP.eff (op := ?_) (t := ?_) (p := ?_) (a := ?_) (v := ?_) (h1 := ?_) ?ho ?he ?_; (case ho => rfl)) | refine DGuardP.yes (v := ?_) (h1 := ?_) ?he ?_); (try case hd => rfl); (case he => intro run; ((try simp only [evOp, evA, val, vals, oval, parts, get_set, get_nil, ofArgs, ofValue, binOpE, arith, ilt, convertE, unOpE, builtinE, lenE, callV, List.nil_append, List.append_nil, Option.bind_some, Option.map_some, Nat.reduceEqDiff, reduceIte, Bool.not_true, Bool.not_false, List.getElem?_cons_zero, List.getElem?_cons_succ, List.getElem?_toArray, Array.toList, List.mapM_cons, List.mapM_nil, Option.pure_def, Option.bind_eq_bind, Try.underlying9, Try.underlying35, Try.underlying3, conv_bytes, hnext_empty, lenOf?]) <;> exact rfl)))  | ((first | refine OpsP.guard (x := ?_) (b := ?_) ?hj ?hx ?hd ?_ | (refine DrP.guard (d := ?_) (op := ?_) (t := ?_) (p := ?_) (a := ?_) (j := ?_) (w := ?_) (x := ?_) (b := ?_) ?ho ?hj ?hx ?hd ?_; (case ho => rfl)) | refine EvP.condB (c := ?_) ?hx ?_); (try case hj => rfl); (case hx => ((try simp only [val, get_set, get_nil, ofArgs, ofValue, Nat.reduceEqDiff, reduceIte, Option.map_some, Try.underlying9, Try.underlying35, Try.underlying3, conv_bytes, hnext_empty, lenOf?]) <;> exact rfl)); (try case hd => rfl)))
  refine EvP.loop (fun m tm h => tm.get 8 = .slice 0 0 0 s.length none 1 ∧ tm.get 3 = .slice 0 0 0 s.length none 1 ∧ tm.get 9 = .int .i64 (.ofNat s.length) ∧
    ∃ i, m = s.length - i ∧ i ≤ s.length ∧ tm.get 10 = .int .i64 (.ofNat i) ∧ h.get 0 = some (.row (u8s ((s.take i).map up ++ s.drop i)) 0 0)) s.length ?_ ?_
  · refine ⟨?_, ?_, ?_, 0, rfl, Nat.zero_le _, ?_, ?_⟩
    · exact (by (try simp only [val, get_set, get_nil, ofArgs, ofValue, Nat.reduceEqDiff, reduceIte, Option.map_some]) <;> exact rfl)
    · exact (by (try simp only [val, get_set, get_nil, ofArgs, ofValue, Nat.reduceEqDiff, reduceIte, Option.map_some]) <;> exact rfl)
    · exact (by (try simp only [val, get_set, get_nil, ofArgs, ofValue, Nat.reduceEqDiff, reduceIte, Option.map_some]) <;> exact rfl)
    · exact (by (try simp only [val, get_set, get_nil, ofArgs, ofValue, Nat.reduceEqDiff, reduceIte, Option.map_some]) <;> exact rfl)
    · simp only [hget_new, hnext_empty, reduceIte, List.take_zero, List.map_nil, List.nil_append, List.drop_zero, u8s]
  · rintro m tm h ⟨h8, h3, h9, i, rfl, hi, h10, hh⟩
    by_cases hlt : i < s.length
    · have f1 : Nat.blt i s.length = true := by rw [blt_eq]; simp; omega
      have hx : s[i] < 256 := hA _ (List.getElem_mem ..)
      have hgx : (u8s ((s.take i).map up ++ s.drop i))[i]? = some (.int .u8 (.ofNat s[i])) := by
        simp only [u8s, List.getElem?_map]
        rw [List.getElem?_append_right (by simp; omega)]
        simp [Nat.min_eq_left (Nat.le_of_lt hlt), hlt]
      have ld := load5 hh hgx
      have next : ∀ (c : Nat), c = up s[i] → (u8s ((s.take i).map up ++ s.drop i)).set i (.int .u8 (.ofNat c)) = u8s ((s.take (i + 1)).map up ++ s.drop (i + 1)) := by
        intro c hc
        subst hc
        have e1 : s.drop i = s[i] :: s.drop (i + 1) := List.drop_eq_getElem_cons hlt
        have e2 : s.take (i + 1) = s.take i ++ [s[i]] := by rw [List.take_add_one, List.getElem?_eq_getElem hlt]; rfl
        have e3 : ((s.take i).map up).length = i := by simp; omega
        rw [e1, e2]
        simp only [u8s, List.map_append, List.map_cons, List.map_nil, List.append_assoc]
        rw [List.set_append_right _ _ (by simp; omega)]
        simp [Nat.min_eq_left (Nat.le_of_lt hlt)]
      have same : up s[i] = s[i] → u8s ((s.take i).map up ++ s.drop i) = u8s ((s.take (i + 1)).map up ++ s.drop (i + 1)) := by
        intro hu
        have e1 : s.drop i = s[i] :: s.drop (i + 1) := List.drop_eq_getElem_cons hlt
        have e2 : s.take (i + 1) = s.take i ++ [s[i]] := by rw [List.take_add_one, List.getElem?_eq_getElem hlt]; rfl
        rw [e1, e2]
        simp only [u8s, List.map_append, List.map_cons, List.map_nil, List.append_assoc, hu, List.cons_append, List.nil_append]
      by_cases a1 : 97 ≤ s[i]
      · have g1 : Nat.blt s[i] 97 = false := by rw [blt_eq]; simp; omega
        by_cases a2 : s[i] ≤ 122
        · have g2 : Nat.blt 122 s[i] = false := by rw [blt_eq]; simp; omega
          have an := andNot_up s[i] hx a1 a2
          have st := store5 (v := .int .u8 (Int.ofNat (up s[i]))) hh (i := i) (by rw [u8s_len]; simp; omega) rfl rfl
          have chk_ : True := by simp only [Try.underlying35, Try.underlying3, h8, h3, h9, h10, f1, indexAddr35 0 s.length i hlt, ld, g1, g2, an, st]
          clear chk_
          repeat (first | refine EvP.seq ?_ | refine EvP.region ?_ | refine OpsP.nil ?_ | refine GuardP.no ?_ | refine DGuardP.no ?_ | refine DrP.nil ?_ | refine CondP.t ?_ | refine CondP.f ?_ | refine EvP.ret ?_ | refine EvP.skip ?_ | refine EvP.exit ?_ | refine EvP.block ?_ | refine EvP.scope ?_  | ((first | refine OpsP.put (v := ?_) (h1 := ?_) ?hd ?he ?_ | refine OpsP.eff (v := ?_) (h1 := ?_) ?he ?_ | refine GuardP.yes (v := ?_) (h1 := ?_) ?he ?_  | (refine DrP.put (d := ?_) (op := ?_) (t := ?_) (p := ?_) (a := ?_) (v := ?_) (h1 := ?_) ?ho ?hd ?he ?_; (case ho => rfl)) | (refine DrP.eff (op := ?_) (t := ?_) (p := ?_) (a := ?_) (v := ?_) (h1 := ?_) ?ho ?he ?_; (case ho => rfl)) | refine DGuardP.yes (v := ?_) (h1 := ?_) ?he ?_); (try case hd => rfl); (case he => intro run; ((try simp only [evOp, evA, val, vals, oval, parts, get_set, get_nil, ofArgs, ofValue, binOpE, arith, ilt, convertE, unOpE, builtinE, lenE, callV, List.nil_append, List.append_nil, Option.bind_some, Option.map_some, Nat.reduceEqDiff, reduceIte, Bool.not_true, Bool.not_false, List.getElem?_cons_zero, List.getElem?_cons_succ, List.getElem?_toArray, Array.toList, List.mapM_cons, List.mapM_nil, Option.pure_def, Option.bind_eq_bind, Try.underlying35, Try.underlying3, h8, h3, h9, h10, f1, indexAddr35 0 s.length i hlt, ld, g1, g2, an, st]) <;> exact rfl)))  | ((first | refine OpsP.guard (x := ?_) (b := ?_) ?hj ?hx ?hd ?_ | (refine DrP.guard (d := ?_) (op := ?_) (t := ?_) (p := ?_) (a := ?_) (j := ?_) (w := ?_) (x := ?_) (b := ?_) ?ho ?hj ?hx ?hd ?_; (case ho => rfl)) | refine EvP.condB (c := ?_) ?hx ?_); (try case hj => rfl); (case hx => ((try simp only [val, get_set, get_nil, ofArgs, ofValue, Nat.reduceEqDiff, reduceIte, Option.map_some, Try.underlying35, Try.underlying3, h8, h3, h9, h10, f1, indexAddr35 0 s.length i hlt, ld, g1, g2, an, st]) <;> exact rfl)); (try case hd => rfl)))
          refine ⟨s.length - (i + 1), by omega, ?_, ?_, ?_, i + 1, rfl, by omega, ?_, ?_⟩
          · exact (by (try simp only [val, get_set, get_nil, ofArgs, ofValue, Nat.reduceEqDiff, reduceIte, Option.map_some, h8]) <;> exact rfl)
          · exact (by (try simp only [val, get_set, get_nil, ofArgs, ofValue, Nat.reduceEqDiff, reduceIte, Option.map_some, h3]) <;> exact rfl)
          · exact (by (try simp only [val, get_set, get_nil, ofArgs, ofValue, Nat.reduceEqDiff, reduceIte, Option.map_some, h9]) <;> exact rfl)
          · simp only [get_set, Nat.reduceEqDiff, reduceIte]
            rw [show Int.ofNat i + 1 = Int.ofNat (i + 1) from rfl, wrap_nat .i64 (i + 1) (by simp only [half]; omega)]
          · simp only [hget_set, reduceIte]
            rw [next _ rfl]
        · have g2 : Nat.blt 122 s[i] = true := by rw [blt_eq]; simp; omega
          have chk_ : True := by simp only [Try.underlying35, Try.underlying3, h8, h3, h9, h10, f1, indexAddr35 0 s.length i hlt, ld, g1, g2]
          clear chk_
          repeat (first | refine EvP.seq ?_ | refine EvP.region ?_ | refine OpsP.nil ?_ | refine GuardP.no ?_ | refine DGuardP.no ?_ | refine DrP.nil ?_ | refine CondP.t ?_ | refine CondP.f ?_ | refine EvP.ret ?_ | refine EvP.skip ?_ | refine EvP.exit ?_ | refine EvP.block ?_ | refine EvP.scope ?_  | ((first | refine OpsP.put (v := ?_) (h1 := ?_) ?hd ?he ?_ | refine OpsP.eff (v := ?_) (h1 := ?_) ?he ?_ | refine GuardP.yes (v := ?_) (h1 := ?_) ?he ?_  | (refine DrP.put (d := ?_) (op := ?_) (t := ?_) (p := ?_) (a := ?_) (v := ?_) (h1 := ?_) ?ho ?hd ?he ?_; (case ho => rfl)) | (refine DrP.eff (op := ?_) (t := ?_) (p := ?_) (a := ?_) (v := ?_) (h1 := ?_) ?ho ?he ?_; (case ho => rfl)) | refine DGuardP.yes (v := ?_) (h1 := ?_) ?he ?_); (try case hd => rfl); (case he => intro run; ((try simp only [evOp, evA, val, vals, oval, parts, get_set, get_nil, ofArgs, ofValue, binOpE, arith, ilt, convertE, unOpE, builtinE, lenE, callV, List.nil_append, List.append_nil, Option.bind_some, Option.map_some, Nat.reduceEqDiff, reduceIte, Bool.not_true, Bool.not_false, List.getElem?_cons_zero, List.getElem?_cons_succ, List.getElem?_toArray, Array.toList, List.mapM_cons, List.mapM_nil, Option.pure_def, Option.bind_eq_bind, Try.underlying35, Try.underlying3, h8, h3, h9, h10, f1, indexAddr35 0 s.length i hlt, ld, g1, g2]) <;> exact rfl)))  | ((first | refine OpsP.guard (x := ?_) (b := ?_) ?hj ?hx ?hd ?_ | (refine DrP.guard (d := ?_) (op := ?_) (t := ?_) (p := ?_) (a := ?_) (j := ?_) (w := ?_) (x := ?_) (b := ?_) ?ho ?hj ?hx ?hd ?_; (case ho => rfl)) | refine EvP.condB (c := ?_) ?hx ?_); (try case hj => rfl); (case hx => ((try simp only [val, get_set, get_nil, ofArgs, ofValue, Nat.reduceEqDiff, reduceIte, Option.map_some, Try.underlying35, Try.underlying3, h8, h3, h9, h10, f1, indexAddr35 0 s.length i hlt, ld, g1, g2]) <;> exact rfl)); (try case hd => rfl)))
          refine ⟨s.length - (i + 1), by omega, ?_, ?_, ?_, i + 1, rfl, by omega, ?_, ?_⟩
          · exact (by (try simp only [val, get_set, get_nil, ofArgs, ofValue, Nat.reduceEqDiff, reduceIte, Option.map_some, h8]) <;> exact rfl)
          · exact (by (try simp only [val, get_set, get_nil, ofArgs, ofValue, Nat.reduceEqDiff, reduceIte, Option.map_some, h3]) <;> exact rfl)
          · exact (by (try simp only [val, get_set, get_nil, ofArgs, ofValue, Nat.reduceEqDiff, reduceIte, Option.map_some, h9]) <;> exact rfl)
          · simp only [get_set, Nat.reduceEqDiff, reduceIte]
            rw [show Int.ofNat i + 1 = Int.ofNat (i + 1) from rfl, wrap_nat .i64 (i + 1) (by simp only [half]; omega)]
          · rw [hh, same (by rw [up, if_neg (by omega)])]
      · have g1 : Nat.blt s[i] 97 = true := by rw [blt_eq]; simp; omega
        have chk_ : True := by simp only [Try.underlying35, Try.underlying3, h8, h3, h9, h10, f1, indexAddr35 0 s.length i hlt, ld, g1]
        clear chk_
        repeat (first | refine EvP.seq ?_ | refine EvP.region ?_ | refine OpsP.nil ?_ | refine GuardP.no ?_ | refine DGuardP.no ?_ | refine DrP.nil ?_ | refine CondP.t ?_ | refine CondP.f ?_ | refine EvP.ret ?_ | refine EvP.skip ?_ | refine EvP.exit ?_ | refine EvP.block ?_ | refine EvP.scope ?_  | ((first | refine OpsP.put (v := ?_) (h1 := ?_) ?hd ?he ?_ | refine OpsP.eff (v := ?_) (h1 := ?_) ?he ?_ | refine GuardP.yes (v := ?_) (h1 := ?_) ?he ?_  | (refine DrP.put (d := ?_) (op := ?_) (t := ?_) (p := ?_) (a := ?_) (v := ?_) (h1 := ?_) ?ho ?hd ?he ?_; (case ho => rfl)) | (refine DrP.eff (op := ?_) (t := ?_) (p := ?_) (a := ?_) (v := ?_) (h1 := ?_) ?ho ?he ?_; (case ho => rfl)) | refine DGuardP.yes (v := ?_) (h1 := ?_) ?he ?_); (try case hd => rfl); (case he => intro run; ((try simp only [evOp, evA, val, vals, oval, parts, get_set, get_nil, ofArgs, ofValue, binOpE, arith, ilt, convertE, unOpE, builtinE, lenE, callV, List.nil_append, List.append_nil, Option.bind_some, Option.map_some, Nat.reduceEqDiff, reduceIte, Bool.not_true, Bool.not_false, List.getElem?_cons_zero, List.getElem?_cons_succ, List.getElem?_toArray, Array.toList, List.mapM_cons, List.mapM_nil, Option.pure_def, Option.bind_eq_bind, Try.underlying35, Try.underlying3, h8, h3, h9, h10, f1, indexAddr35 0 s.length i hlt, ld, g1]) <;> exact rfl)))  | ((first | refine OpsP.guard (x := ?_) (b := ?_) ?hj ?hx ?hd ?_ | (refine DrP.guard (d := ?_) (op := ?_) (t := ?_) (p := ?_) (a := ?_) (j := ?_) (w := ?_) (x := ?_) (b := ?_) ?ho ?hj ?hx ?hd ?_; (case ho => rfl)) | refine EvP.condB (c := ?_) ?hx ?_); (try case hj => rfl); (case hx => ((try simp only [val, get_set, get_nil, ofArgs, ofValue, Nat.reduceEqDiff, reduceIte, Option.map_some, Try.underlying35, Try.underlying3, h8, h3, h9, h10, f1, indexAddr35 0 s.length i hlt, ld, g1]) <;> exact rfl)); (try case hd => rfl)))
        refine ⟨s.length - (i + 1), by omega, ?_, ?_, ?_, i + 1, rfl, by omega, ?_, ?_⟩
        · exact (by (try simp only [val, get_set, get_nil, ofArgs, ofValue, Nat.reduceEqDiff, reduceIte, Option.map_some, h8]) <;> exact rfl)
        · exact (by (try simp only [val, get_set, get_nil, ofArgs, ofValue, Nat.reduceEqDiff, reduceIte, Option.map_some, h3]) <;> exact rfl)
        · exact (by (try simp only [val, get_set, get_nil, ofArgs, ofValue, Nat.reduceEqDiff, reduceIte, Option.map_some, h9]) <;> exact rfl)
        · simp only [get_set, Nat.reduceEqDiff, reduceIte]
          rw [show Int.ofNat i + 1 = Int.ofNat (i + 1) from rfl, wrap_nat .i64 (i + 1) (by simp only [half]; omega)]
        · rw [hh, same (by rw [up, if_neg (by omega)])]
    · have f1 : Nat.blt i s.length = false := by rw [blt_eq]; simp; omega
      have chk_ : True := by simp only [Try.underlying35, Try.underlying3, h8, h3, h9, h10, f1]
      clear chk_
      repeat (first | refine EvP.seq ?_ | refine EvP.region ?_ | refine OpsP.nil ?_ | refine GuardP.no ?_ | refine DGuardP.no ?_ | refine DrP.nil ?_ | refine CondP.t ?_ | refine CondP.f ?_ | refine EvP.ret ?_ | refine EvP.skip ?_ | refine EvP.exit ?_ | refine EvP.block ?_ | refine EvP.scope ?_  | ((first | refine OpsP.put (v := ?_) (h1 := ?_) ?hd ?he ?_ | refine OpsP.eff (v := ?_) (h1 := ?_) ?he ?_ | refine GuardP.yes (v := ?_) (h1 := ?_) ?he ?_  | (refine DrP.put (d := ?_) (op := ?_) (t := ?_) (p := ?_) (a := ?_) (v := ?_) (h1 := ?_) ?ho ?hd ?he ?_; (case ho => rfl)) | (refine DrP.eff (op := ?_) (t := ?_) (p := ?_) (a := ?_) (v := ?_) (h1 := ?_) ?ho ?he ?_; (case ho => rfl)) | refine DGuardP.yes (v := ?_) (h1 := ?_) ?he ?_); (try case hd => rfl); (case he => intro run; ((try simp only [evOp, evA, val, vals, oval, parts, get_set, get_nil, ofArgs, ofValue, binOpE, arith, ilt, convertE, unOpE, builtinE, lenE, callV, List.nil_append, List.append_nil, Option.bind_some, Option.map_some, Nat.reduceEqDiff, reduceIte, Bool.not_true, Bool.not_false, List.getElem?_cons_zero, List.getElem?_cons_succ, List.getElem?_toArray, Array.toList, List.mapM_cons, List.mapM_nil, Option.pure_def, Option.bind_eq_bind, Try.underlying35, Try.underlying3, h8, h3, h9, h10, f1]) <;> exact rfl)))  | ((first | refine OpsP.guard (x := ?_) (b := ?_) ?hj ?hx ?hd ?_ | (refine DrP.guard (d := ?_) (op := ?_) (t := ?_) (p := ?_) (a := ?_) (j := ?_) (w := ?_) (x := ?_) (b := ?_) ?ho ?hj ?hx ?hd ?_; (case ho => rfl)) | refine EvP.condB (c := ?_) ?hx ?_); (try case hj => rfl); (case hx => ((try simp only [val, get_set, get_nil, ofArgs, ofValue, Nat.reduceEqDiff, reduceIte, Option.map_some, Try.underlying35, Try.underlying3, h8, h3, h9, h10, f1]) <;> exact rfl)); (try case hd => rfl)))
      refine ⟨_, rfl, ?_, ?_⟩
      · simp only [oneOf, get_set, Nat.reduceEqDiff, reduceIte, h3]
      · rw [hh, List.take_of_length_le (by omega), List.drop_eq_nil_of_le (by omega), List.append_nil]
theorem u8s_bare (s : List Nat) : (u8s s).all (bareV 10) = true := by
  rw [List.all_eq_true]
  intro x hx
  obtain ⟨b, _, rfl⟩ := List.mem_map.1 hx
  rfl
theorem largeS_ok : PureOk Try.prog ov7 39 fLargeS := pureOk_of fun vs p hp => by
  unfold fLargeS at hp
  split at hp
  · rename_i s
    split at hp
    · rename_i hc
      cases hp
      obtain ⟨r, h, k1, rfl, k2⟩ := largeS_body s (fun x hx => by simpa using List.all_eq_true.1 hc.1 x hx) hc.2
      refine ⟨_, h, k1, ?_⟩
      show ((rowOf h 0).map fun ob => (some ob, fun id => LV.slice id 0 0 s.length none 1)) = _
      simp only [rowOf, k2, u8s_bare, Option.map_some]
    · cases hp
  · cases hp
def ov8 : Ov := ov7.with 39 fLargeS
theorem ov8_ok : OvOk Try.prog ov8 := Ov.with_ok prog_ok ov7_ok largeS_ok
end Go.Ev

namespace Go.Ev
open Go.Proofs
set_option linter.unusedSimpArgs false
set_option linter.unusedVariables false
set_option maxHeartbeats 4000000
theorem bytes_u8s : ∀ (s : List Nat), (∀ x ∈ s, x < 256) → bytes? (u8s s) = some s
  | [], _ => rfl
  | a :: s, h => by
    have ih := bytes_u8s s fun x hx => h x (by simp [hx])
    have ha : byteOf? (.int .u8 (Int.ofNat a)) = some a := by
      have : Nat.blt a 256 = true := by rw [blt_eq]; simpa using h a (by simp)
      simp only [byteOf?, this]
    unfold bytes? u8s at *
    simp only [List.map_cons, List.mapM_cons, ha, Option.pure_def, Option.bind_eq_bind, Option.bind_some, ih]
theorem freezeV_int (h : Heap) (d : Nat) (k : IntKind) (x : Int) : freezeV h (d + 1) (.int k x) = some (.int k x) := rfl
theorem freezeV_slice (h : Heap) (d : Nat) (b g o n : Nat) (c : Option Nat) (e : Nat) : freezeV h (d + 1) (.slice b g o n c e) = (viewCells h (.slice b g o n c e)).bind fun cs => (cs.mapM (freezeV h d)).map fun us => .vs us n := rfl
theorem freeze_u8s (h : Heap) (d : Nat) (s : List Nat) : (u8s s).mapM (freezeV h (d + 1)) = some (u8s s) := by
  induction s with
  | nil => rfl
  | cons a s ih => unfold u8s at *; simp only [List.map_cons, List.mapM_cons, freezeV_int, ih, Option.pure_def, Option.bind_eq_bind, Option.bind_some]
theorem freeze_bytes {h : Heap} {b : Nat} {s : List Nat} {n : Nat} (hb : h.get b = some (.row (u8s s) 0 0)) (hn : n = s.length) : freezeV h 10 (.slice b 0 0 n none 1) = some (.vs (u8s s) n) := by
  subst hn
  have e : Nat.ble (0 + s.length * 1) (u8s s).length = true := by rw [ble_eq, u8s_len]; simp
  have : viewCells h (.slice b 0 0 s.length none 1) = some (u8s s) := by
    simp only [viewCells, readN, hb, isHi, Nat.beq, e, Bool.and_self, List.drop_zero]
    rw [List.take_of_length_le (by rw [u8s_len]; omega)]
  rw [freezeV_slice h 9, this, Option.bind_some, freeze_u8s h 8 s, Option.map_some]
theorem up_lt (c : Nat) (h : c < 256) : up c < 256 := by unfold up; split <;> omega
theorem call8_39 (run : Run) (h : Heap) (s : List Nat) (hs : ∀ x ∈ s, x < 256) (hl : s.length < 2 ^ 62) : callE Try.prog ov8 run 39 [.str s] h = some (.slice h.next 0 0 s.length none 1, (h.new (.row (u8s (s.map up)) 0 0)).2) := by
  show ((fLargeS [.str s]).map (putGift h)) = _
  have : fLargeS [.str s] = some (some (.row (u8s (s.map up)) 0 0), fun id => .slice id 0 0 s.length none 1) := by
    show (if s.all (· < 256) = true ∧ s.length < 2 ^ 62 then some (some (.row (u8s (s.map up)) 0 0), fun id => .slice id 0 0 s.length none 1) else none : Option Gift) = _
    rw [if_pos ⟨List.all_eq_true.2 fun x hx => by simpa using hs x hx, hl⟩]
  rw [this]
  rfl
theorem call8_38 (run : Run) {h : Heap} {b c n m : Nat} {s t : List Nat} (hb : h.get b = some (.row (u8s s) 0 0)) (hc : h.get c = some (.row (u8s t) 0 0)) (hn : n = s.length) (hm : m = t.length) (hs : ∀ x ∈ s, x < 256) (ht : ∀ x ∈ t, x < 256) :
    callE Try.prog ov8 run 38 [.slice b 0 0 n none 1, .slice c 0 0 m none 1] h = some (.bool (listBeq s t), h) := by
  show pureCall fEqual _ h = _
  unfold pureCall
  simp only [List.mapM_cons, List.mapM_nil, freeze_bytes hb hn, freeze_bytes hc hm, Option.pure_def, Option.bind_eq_bind, Option.bind_some]
  have e1 : Nat.beq (u8s s).length n = true := by rw [beq_eq, u8s_len]; simp [hn]
  have e2 : Nat.beq (u8s t).length m = true := by rw [beq_eq, u8s_len]; simp [hm]
  simp only [fEqual, e1, e2, and_self, if_true, bytes_u8s s hs, bytes_u8s t ht, Option.bind_some, Option.map_some]
  rfl
theorem like_eq : ∀ (a b : List Nat), listBeq (a.map up) (b.map up) = likeL a b
  | [], [] => rfl
  | [], _ :: _ => rfl
  | _ :: _, [] => rfl
  | a :: x, b :: y => by
    simp only [List.map_cons, listBeq, likeL, like_eq x y]
    cases Nat.beq (up a) (up b) <;> rfl

/-! image.Alike -/
def strOk (s : List Nat) : Prop := (∀ x ∈ s, x < 256) ∧ s.length < 2 ^ 62
instance (s : List Nat) : Decidable (strOk s) := by unfold strOk; infer_instance
def fAlike : Pure
  | [.str a, .str b] => if strOk a ∧ strOk b then some (none, fun _ => .bool (likeL a b)) else none
  | _ => none
theorem alike_ok : PureOk Try.prog ov8 29 fAlike := pureOk_of fun vs p hp => by
  unfold fAlike at hp
  split at hp
  · rename_i a b
    split at hp
    · rename_i hc
      cases hp
      obtain ⟨⟨a1, a2⟩, ⟨b1, b2⟩⟩ := hc
      have key : ∃ r h1, Evc Try.prog ov8 29 [.str a, .str b] Heap.empty (r, h1) ∧ r = .bool (likeL a b) := by
        have up2 : ∀ (s : List Nat), (∀ x ∈ s, x < 256) → ∀ x ∈ s.map up, x < 256 := fun s hs x hx => by
          obtain ⟨c, hc, rfl⟩ := List.mem_map.1 hx
          exact up_lt c (hs c hc)
        have c38 : ∀ run, callE Try.prog ov8 run 38 [.slice 0 0 0 a.length none 1, .slice 1 0 0 b.length none 1] ((Heap.empty.new (.row (u8s (a.map up)) 0 0)).2.new (.row (u8s (b.map up)) 0 0)).2 = some (.bool (likeL a b), _) := fun run => by
          rw [call8_38 run (s := a.map up) (t := b.map up) (by simp only [hget_new, hnext_new, hnext_empty, reduceIte, Nat.reduceAdd, Nat.reduceEqDiff]) (by simp only [hget_new, hnext_new, hnext_empty, reduceIte, Nat.reduceAdd, Nat.reduceEqDiff]) (by simp) (by simp) (up2 a a1) (up2 b b1), like_eq]
        refine Evc.of rfl Try.func29 rfl rfl ?_
        have chk_ : True := by simp only [call8_39 _ _ a a1 a2, call8_39 _ _ b b1 b2, hnext_empty, hnext_new, Nat.zero_add, c38]
        clear chk_
        repeat (first | refine EvP.seq ?_ | refine EvP.region ?_ | refine OpsP.nil ?_ | refine GuardP.no ?_ | refine DGuardP.no ?_ | refine DrP.nil ?_ | refine CondP.t ?_ | refine CondP.f ?_ | refine EvP.ret ?_ | refine EvP.skip ?_ | refine EvP.exit ?_ | refine EvP.block ?_ | refine EvP.scope ?_  | ((first | refine OpsP.put (v := ?_) (h1 := ?_) ?hd ?he ?_ | refine OpsP.eff (v := ?_) (h1 := ?_) ?he ?_ | refine GuardP.yes (v := ?_) (h1 := ?_) ?he ?_  | (refine DrP.put (d := ?_) (op := ?_) (t := ?_) (p := ?_) (a := ?_) (v := ?_) (h1 := ?_) ?ho ?hd ?he ?_; (case ho => rfl)) | (refine DrP.eff (op := ?_) (t := ?_) (p := ?_) (a := ?_) (v := ?_) (h1 := ?_) ?ho ?he ?_; (case ho => rfl)) | refine DGuardP.yes (v := ?_) (h1 := ?_) ?he ?_); (try case hd => rfl); (case he => intro run; ((try simp only [evOp, evA, val, vals, oval, parts, get_set, get_nil, ofArgs, ofValue, binOpE, arith, ilt, convertE, unOpE, builtinE, lenE, callV, List.nil_append, List.append_nil, Option.bind_some, Option.map_some, Nat.reduceEqDiff, reduceIte, Bool.not_true, Bool.not_false, List.getElem?_cons_zero, List.getElem?_cons_succ, List.getElem?_toArray, Array.toList, List.mapM_cons, List.mapM_nil, Option.pure_def, Option.bind_eq_bind, call8_39 _ _ a a1 a2, call8_39 _ _ b b1 b2, hnext_empty, hnext_new, Nat.zero_add, c38]) <;> exact rfl)))  | ((first | refine OpsP.guard (x := ?_) (b := ?_) ?hj ?hx ?hd ?_ | (refine DrP.guard (d := ?_) (op := ?_) (t := ?_) (p := ?_) (a := ?_) (j := ?_) (w := ?_) (x := ?_) (b := ?_) ?ho ?hj ?hx ?hd ?_; (case ho => rfl)) | refine EvP.condB (c := ?_) ?hx ?_); (try case hj => rfl); (case hx => ((try simp only [val, get_set, get_nil, ofArgs, ofValue, Nat.reduceEqDiff, reduceIte, Option.map_some, call8_39 _ _ a a1 a2, call8_39 _ _ b b1 b2, hnext_empty, hnext_new, Nat.zero_add, c38]) <;> exact rfl)); (try case hd => rfl)))
        refine ⟨_, rfl, ?_⟩
        simp only [oneOf, get_set, Nat.reduceEqDiff, reduceIte]
      obtain ⟨r, h1, k1, rfl⟩ := key
      exact ⟨_, h1, k1, rfl⟩
    · cases hp
  · cases hp
def ov9 : Ov := ov8.with 29 fAlike
theorem ov9_ok : OvOk Try.prog ov9 := Ov.with_ok prog_ok ov8_ok alike_ok
end Go.Ev

namespace Go.Ev
open Go.Proofs
set_option linter.unusedSimpArgs false
set_option linter.unusedVariables false
set_option maxHeartbeats 4000000
theorem call9_29 (run : Run) (h : Heap) (a b : List Nat) (ha : strOk a) (hb : strOk b) : callE Try.prog ov9 run 29 [.str a, .str b] h = some (.bool (likeL a b), h) := by
  show ((fAlike [.str a, .str b]).map (putGift h)) = _
  have : fAlike [.str a, .str b] = some (none, fun _ => .bool (likeL a b)) := by
    show (if strOk a ∧ strOk b then some (none, fun _ => .bool (likeL a b)) else none : Option Gift) = _
    rw [if_pos ⟨ha, hb⟩]
  rw [this]
  rfl
/-! the closure of Named -/
def fIs : Pure
  | [.agg [a, .str nm, c, d, e, f, g], .vptr [.str s]] => if strOk nm ∧ strOk s ∧ ([a, .str nm, c, d, e, f, g].all LV.isCell) = true then some (none, fun _ => .bool (likeL nm s)) else none
  | _ => none
theorem fa54_1 (b o : Nat) : fieldAddrOp Try.prog 54 (.ptr b 0 o) 1 = some (.ptr b 0 (o + 1)) := by kernel_rfl
theorem agg9 : isAggB Try.prog 9 = some false := by kernel_rfl
theorem is_ok : PureOk Try.prog ov9 28 fIs := pureOk_of fun vs p hp => by
  unfold fIs at hp
  split at hp
  · rename_i a nm c d e f g s
    split at hp
    · rename_i hc
      cases hp
      obtain ⟨h1, h2, h3⟩ := hc
      have key : ∃ r h1, Evc Try.prog ov9 28 [.agg [a, .str nm, c, d, e, f, g], .vptr [.str s]] Heap.empty (r, h1) ∧ r = .bool (likeL nm s) := by
        have l1 : loadAt Try.prog 9 (.ptr 0 0 (0 + 1)) (Heap.empty.new (.row [a, .str nm, c, d, e, f, g] 0 0)).2 = some (.str nm) := by
          simp only [loadAt, agg9, readN, hget_new, hnext_empty, reduceIte]
          rfl
        have l2 : ∀ hh : Heap, loadAt Try.prog 9 (.vptr [.str s]) hh = some (.str s) := fun hh => by
          simp only [loadAt, agg9]
          rfl
        refine Evc.of rfl Try.func28 rfl rfl ?_
        have chk_ : True := by simp only [LV.cells, putNew_eq, hnext_empty, fa54_1, l1, l2, call9_29 _ _ nm s h1 h2]
        clear chk_
        repeat (first | refine EvP.seq ?_ | refine EvP.region ?_ | refine OpsP.nil ?_ | refine GuardP.no ?_ | refine DGuardP.no ?_ | refine DrP.nil ?_ | refine CondP.t ?_ | refine CondP.f ?_ | refine EvP.ret ?_ | refine EvP.skip ?_ | refine EvP.exit ?_ | refine EvP.block ?_ | refine EvP.scope ?_  | ((first | refine OpsP.put (v := ?_) (h1 := ?_) ?hd ?he ?_ | refine OpsP.eff (v := ?_) (h1 := ?_) ?he ?_ | refine GuardP.yes (v := ?_) (h1 := ?_) ?he ?_  | (refine DrP.put (d := ?_) (op := ?_) (t := ?_) (p := ?_) (a := ?_) (v := ?_) (h1 := ?_) ?ho ?hd ?he ?_; (case ho => rfl)) | (refine DrP.eff (op := ?_) (t := ?_) (p := ?_) (a := ?_) (v := ?_) (h1 := ?_) ?ho ?he ?_; (case ho => rfl)) | refine DGuardP.yes (v := ?_) (h1 := ?_) ?he ?_); (try case hd => rfl); (case he => intro run; ((try simp only [evOp, evA, val, vals, oval, parts, get_set, get_nil, ofArgs, ofValue, binOpE, arith, ilt, convertE, unOpE, builtinE, lenE, callV, List.nil_append, List.append_nil, Option.bind_some, Option.map_some, Nat.reduceEqDiff, reduceIte, Bool.not_true, Bool.not_false, List.getElem?_cons_zero, List.getElem?_cons_succ, List.getElem?_toArray, Array.toList, List.mapM_cons, List.mapM_nil, Option.pure_def, Option.bind_eq_bind, LV.cells, putNew_eq, hnext_empty, fa54_1, l1, l2, call9_29 _ _ nm s h1 h2]) <;> exact rfl)))  | ((first | refine OpsP.guard (x := ?_) (b := ?_) ?hj ?hx ?hd ?_ | (refine DrP.guard (d := ?_) (op := ?_) (t := ?_) (p := ?_) (a := ?_) (j := ?_) (w := ?_) (x := ?_) (b := ?_) ?ho ?hj ?hx ?hd ?_; (case ho => rfl)) | refine EvP.condB (c := ?_) ?hx ?_); (try case hj => rfl); (case hx => ((try simp only [val, get_set, get_nil, ofArgs, ofValue, Nat.reduceEqDiff, reduceIte, Option.map_some, LV.cells, putNew_eq, hnext_empty, fa54_1, l1, l2, call9_29 _ _ nm s h1 h2]) <;> exact rfl)); (try case hd => rfl)))
        refine ⟨_, rfl, ?_⟩
        simp only [oneOf, get_set, Nat.reduceEqDiff, reduceIte]
      obtain ⟨r, h1, k1, rfl⟩ := key
      exact ⟨_, h1, k1, rfl⟩
    · cases hp
  · cases hp
def ov10 : Ov := ov9.with 28 fIs
theorem ov10_ok : OvOk Try.prog ov10 := Ov.with_ok prog_ok ov9_ok is_ok
end Go.Ev

namespace Go.Ev
open Go.Proofs
set_option linter.unusedSimpArgs false
set_option linter.unusedVariables false
set_option maxHeartbeats 4000000
def noR : Row := (0, [], 0, 0, 0, false, false)
def rowOfTab (i : Nat) : Row := tab.getD i noR
theorem rowAt_eq (i : Nat) (hi : i < 113) : rowAt i = rowLV (rowOfTab i) := by
  have key : ∀ i, i < 113 → lvEq 3 (.agg (rowAt i)) (.agg (rowLV (rowOfTab i))) = true := by decide +kernel
  have := lvEq_eq _ _ _ (key i hi)
  injection this
theorem names_ok : ∀ i, i < 113 → ((rowOfTab i).2.1.all (· < 256)) = true ∧ (rowOfTab i).2.1.length < 2 ^ 62 := by decide +kernel
theorem call10_28 (run : Run) (h : Heap) (i : Nat) (hi : i < 113) (s : List Nat) (hs : strOk s) : callE Try.prog ov10 run 28 [.agg (rowAt i), .vptr [.str s]] h = some (.bool (likeL (rowOfTab i).2.1 s), h) := by
  have hn : strOk (rowOfTab i).2.1 := ⟨fun x hx => by simpa using List.all_eq_true.1 (names_ok i hi).1 x hx, (names_ok i hi).2⟩
  rw [rowAt_eq i hi]
  generalize rowOfTab i = r at *
  obtain ⟨a, nm, c, d, e, f, g⟩ := r
  show ((fIs [.agg (rowLV (a, nm, c, d, e, f, g)), .vptr [.str s]]).map (putGift h)) = _
  have : fIs [.agg (rowLV (a, nm, c, d, e, f, g)), .vptr [.str s]] = some (none, fun _ => .bool (likeL nm s)) := by
    show (if strOk nm ∧ strOk s ∧ _ then some (none, fun _ => .bool (likeL nm s)) else none : Option Gift) = _
    rw [if_pos ⟨hn, hs, rfl⟩]
  rw [this]
  rfl
theorem indexAddr60 (i : Nat) (hi : i < 113) : indexAddrOp Try.prog 60 (.vs tabCells 113) (.int .i64 (.ofNat i)) = some (.vptr (tabCells.drop (i * 7))) := by
  have e : Nat.blt i 113 = true := by rw [blt_eq]; simp; omega
  have e2 : Nat.ble (i * 7) tabCells.length = true := by rw [ble_eq, tab_len]; simp; omega
  have hs : szOf Try.prog 54 = some 7 := by kernel_rfl
  have hu : Try.prog.underlying 60 = some (.slice 54) := by kernel_rfl
  simp only [indexAddrOp, asNat?, Option.bind_some, hu, hs, e, e2, Bool.and_self]
theorem load54 (h : Heap) (i : Nat) (hi : i < 113) : loadAt Try.prog 54 (.vptr (tabCells.drop (i * 7))) h = some (.agg (rowAt i)) := by
  have e2 : Nat.ble 7 (tabCells.drop (i * 7)).length = true := by rw [ble_eq, List.length_drop, tab_len]; simp; omega
  have ha : isAggB Try.prog 54 = some true := by kernel_rfl
  have hs : szOf Try.prog 54 = some 7 := by kernel_rfl
  simp only [loadAt, ha, hs, Option.bind_some, e2, rowAt]
def nmFrom (s : List Nat) : List Row → Nat → Int
  | [], _ => -1
  | r :: rs, i => match likeL r.2.1 s with | true => Int.ofNat i | false => nmFrom s rs (i + 1)
def fIndex : Pure
  | [.vs cells n, .fn f [] [.vptr [.str s]]] => if lvEq 3 (.vs cells n) (.vs tabCells 113) = true ∧ Nat.beq f 28 = true ∧ strOk s then some (none, fun _ => .int .i64 (nmFrom s tab 0)) else none
  | _ => none
theorem u60 : Try.prog.underlying 60 = some (.slice 54) := by kernel_rfl
theorem tab_drop (i : Nat) (hi : i < 113) : tab.drop i = rowOfTab i :: tab.drop (i + 1) := by
  have hl : tab.length = 113 := by kernel_rfl
  rw [List.drop_eq_getElem_cons (by omega)]
  simp [rowOfTab, List.getD_eq_getElem?_getD, List.getElem?_eq_getElem (show i < tab.length by omega)]
theorem index_body (s : List Nat) (hs : strOk s) : ∃ r h1, Evc Try.prog ov10 30 [.vs tabCells 113, .fn 28 [] [.vptr [.str s]]] Heap.empty (r, h1) ∧ r = .int .i64 (nmFrom s tab 0) := by
  refine Evc.of rfl Try.func30 rfl rfl ?_
  have chk_ : True := by simp only [u60, lenOf?]
  clear chk_
  repeat (first | refine EvP.seq ?_ | refine EvP.region ?_ | refine OpsP.nil ?_ | refine GuardP.no ?_ | refine DGuardP.no ?_ | refine DrP.nil ?_ | refine CondP.t ?_ | refine CondP.f ?_ | refine EvP.ret ?_ | refine EvP.skip ?_ | refine EvP.exit ?_ | refine EvP.block ?_ | refine EvP.scope ?_  | ((first | refine OpsP.put (v := ?_) (h1 := ?_) ?hd ?he ?_ | refine OpsP.eff (v := ?_) (h1 := ?_) ?he ?_ | refine GuardP.yes (v := ?_) (h1 := ?_) ?he ?_  | (refine DrP.put (d := ?_) (op := ?_) (t := ?_) (p := ?_) (a := ?_) (v := ?_) (h1 := ?_) ?ho ?hd ?he ?_; (case ho => rfl)) | (refine DrP.eff (op := ?_) (t := ?_) (p := ?_) (a := ?_) (v := ?_) (h1 := ?_) ?ho ?he ?_; (case ho => rfl)) | refine DGuardP.yes (v := ?_) (h1 := ?_) ?he ?_); (try case hd => rfl); (case he => intro run; ((try simp only [evOp, evA, val, vals, oval, parts, get_set, get_nil, ofArgs, ofValue, binOpE, arith, ilt, convertE, unOpE, builtinE, lenE, callV, List.nil_append, List.append_nil, Option.bind_some, Option.map_some, Nat.reduceEqDiff, reduceIte, Bool.not_true, Bool.not_false, List.getElem?_cons_zero, List.getElem?_cons_succ, List.getElem?_toArray, Array.toList, List.mapM_cons, List.mapM_nil, Option.pure_def, Option.bind_eq_bind, u60, lenOf?]) <;> exact rfl)))  | ((first | refine OpsP.guard (x := ?_) (b := ?_) ?hj ?hx ?hd ?_ | (refine DrP.guard (d := ?_) (op := ?_) (t := ?_) (p := ?_) (a := ?_) (j := ?_) (w := ?_) (x := ?_) (b := ?_) ?ho ?hj ?hx ?hd ?_; (case ho => rfl)) | refine EvP.condB (c := ?_) ?hx ?_); (try case hj => rfl); (case hx => ((try simp only [val, get_set, get_nil, ofArgs, ofValue, Nat.reduceEqDiff, reduceIte, Option.map_some, u60, lenOf?]) <;> exact rfl)); (try case hd => rfl)))
  refine EvP.loop (fun m tm h => h = Heap.empty ∧ tm.get 0 = .vs tabCells 113 ∧ tm.get 1 = .fn 28 [] [.vptr [.str s]] ∧ tm.get 7 = .int .i64 (.ofNat 113) ∧ ∃ i, m = 113 - i ∧ i ≤ 113 ∧ tm.get 8 = .int .i64 (.ofNat i) ∧ nmFrom s (tab.drop i) i = nmFrom s tab 0) 113 ?_ ?_
  · refine ⟨rfl, ?_, ?_, ?_, 0, rfl, by omega, ?_, rfl⟩
    · exact (by (try simp only [val, get_set, get_nil, ofArgs, ofValue, Nat.reduceEqDiff, reduceIte, Option.map_some]) <;> exact rfl)
    · exact (by (try simp only [val, get_set, get_nil, ofArgs, ofValue, Nat.reduceEqDiff, reduceIte, Option.map_some]) <;> exact rfl)
    · exact (by (try simp only [val, get_set, get_nil, ofArgs, ofValue, Nat.reduceEqDiff, reduceIte, Option.map_some]) <;> exact rfl)
    · exact (by (try simp only [val, get_set, get_nil, ofArgs, ofValue, Nat.reduceEqDiff, reduceIte, Option.map_some]) <;> exact rfl)
  · rintro m tm h ⟨rfl, h0, h1, h7, i, rfl, hi, h8, hnm⟩
    by_cases hlt : i < 113
    · have f1 : Nat.blt i 113 = true := by rw [blt_eq]; simp; omega
      have chk_ : True := by simp only [h0, h1, h7, h8, f1, indexAddr60 i hlt, load54 _ i hlt, call10_28 _ _ i hlt s hs, List.cons_append]
      clear chk_
      repeat (first | refine EvP.seq ?_ | refine EvP.region ?_ | refine OpsP.nil ?_ | refine GuardP.no ?_ | refine DGuardP.no ?_ | refine DrP.nil ?_ | refine CondP.t ?_ | refine CondP.f ?_ | refine EvP.ret ?_ | refine EvP.skip ?_ | refine EvP.exit ?_ | refine EvP.block ?_ | refine EvP.scope ?_  | ((first | refine OpsP.put (v := ?_) (h1 := ?_) ?hd ?he ?_ | refine OpsP.eff (v := ?_) (h1 := ?_) ?he ?_ | refine GuardP.yes (v := ?_) (h1 := ?_) ?he ?_  | (refine DrP.put (d := ?_) (op := ?_) (t := ?_) (p := ?_) (a := ?_) (v := ?_) (h1 := ?_) ?ho ?hd ?he ?_; (case ho => rfl)) | (refine DrP.eff (op := ?_) (t := ?_) (p := ?_) (a := ?_) (v := ?_) (h1 := ?_) ?ho ?he ?_; (case ho => rfl)) | refine DGuardP.yes (v := ?_) (h1 := ?_) ?he ?_); (try case hd => rfl); (case he => intro run; ((try simp only [evOp, evA, val, vals, oval, parts, get_set, get_nil, ofArgs, ofValue, binOpE, arith, ilt, convertE, unOpE, builtinE, lenE, callV, List.nil_append, List.append_nil, Option.bind_some, Option.map_some, Nat.reduceEqDiff, reduceIte, Bool.not_true, Bool.not_false, List.getElem?_cons_zero, List.getElem?_cons_succ, List.getElem?_toArray, Array.toList, List.mapM_cons, List.mapM_nil, Option.pure_def, Option.bind_eq_bind, h0, h1, h7, h8, f1, indexAddr60 i hlt, load54 _ i hlt, call10_28 _ _ i hlt s hs, List.cons_append]) <;> exact rfl)))  | ((first | refine OpsP.guard (x := ?_) (b := ?_) ?hj ?hx ?hd ?_ | (refine DrP.guard (d := ?_) (op := ?_) (t := ?_) (p := ?_) (a := ?_) (j := ?_) (w := ?_) (x := ?_) (b := ?_) ?ho ?hj ?hx ?hd ?_; (case ho => rfl)) | refine EvP.condB (c := ?_) ?hx ?_); (try case hj => rfl); (case hx => ((try simp only [val, get_set, get_nil, ofArgs, ofValue, Nat.reduceEqDiff, reduceIte, Option.map_some, h0, h1, h7, h8, f1, indexAddr60 i hlt, load54 _ i hlt, call10_28 _ _ i hlt s hs, List.cons_append]) <;> exact rfl)); (try case hd => rfl)))
      cases hlk : likeL (rowOfTab i).2.1 s with
      | true =>
        have chk_ : True := by simp only [h0, h1, h7, h8]
        clear chk_
        repeat (first | refine EvP.seq ?_ | refine EvP.region ?_ | refine OpsP.nil ?_ | refine GuardP.no ?_ | refine DGuardP.no ?_ | refine DrP.nil ?_ | refine CondP.t ?_ | refine CondP.f ?_ | refine EvP.ret ?_ | refine EvP.skip ?_ | refine EvP.exit ?_ | refine EvP.block ?_ | refine EvP.scope ?_  | ((first | refine OpsP.put (v := ?_) (h1 := ?_) ?hd ?he ?_ | refine OpsP.eff (v := ?_) (h1 := ?_) ?he ?_ | refine GuardP.yes (v := ?_) (h1 := ?_) ?he ?_  | (refine DrP.put (d := ?_) (op := ?_) (t := ?_) (p := ?_) (a := ?_) (v := ?_) (h1 := ?_) ?ho ?hd ?he ?_; (case ho => rfl)) | (refine DrP.eff (op := ?_) (t := ?_) (p := ?_) (a := ?_) (v := ?_) (h1 := ?_) ?ho ?he ?_; (case ho => rfl)) | refine DGuardP.yes (v := ?_) (h1 := ?_) ?he ?_); (try case hd => rfl); (case he => intro run; ((try simp only [evOp, evA, val, vals, oval, parts, get_set, get_nil, ofArgs, ofValue, binOpE, arith, ilt, convertE, unOpE, builtinE, lenE, callV, List.nil_append, List.append_nil, Option.bind_some, Option.map_some, Nat.reduceEqDiff, reduceIte, Bool.not_true, Bool.not_false, List.getElem?_cons_zero, List.getElem?_cons_succ, List.getElem?_toArray, Array.toList, List.mapM_cons, List.mapM_nil, Option.pure_def, Option.bind_eq_bind, h0, h1, h7, h8]) <;> exact rfl)))  | ((first | refine OpsP.guard (x := ?_) (b := ?_) ?hj ?hx ?hd ?_ | (refine DrP.guard (d := ?_) (op := ?_) (t := ?_) (p := ?_) (a := ?_) (j := ?_) (w := ?_) (x := ?_) (b := ?_) ?ho ?hj ?hx ?hd ?_; (case ho => rfl)) | refine EvP.condB (c := ?_) ?hx ?_); (try case hj => rfl); (case hx => ((try simp only [val, get_set, get_nil, ofArgs, ofValue, Nat.reduceEqDiff, reduceIte, Option.map_some, h0, h1, h7, h8]) <;> exact rfl)); (try case hd => rfl)))
        refine ⟨_, rfl, ?_⟩
        simp only [oneOf, get_set, Nat.reduceEqDiff, reduceIte]
        rw [← hnm, tab_drop i hlt]
        simp only [nmFrom, hlk]
      | false =>
        have chk_ : True := by simp only [h0, h1, h7, h8]
        clear chk_
        repeat (first | refine EvP.seq ?_ | refine EvP.region ?_ | refine OpsP.nil ?_ | refine GuardP.no ?_ | refine DGuardP.no ?_ | refine DrP.nil ?_ | refine CondP.t ?_ | refine CondP.f ?_ | refine EvP.ret ?_ | refine EvP.skip ?_ | refine EvP.exit ?_ | refine EvP.block ?_ | refine EvP.scope ?_  | ((first | refine OpsP.put (v := ?_) (h1 := ?_) ?hd ?he ?_ | refine OpsP.eff (v := ?_) (h1 := ?_) ?he ?_ | refine GuardP.yes (v := ?_) (h1 := ?_) ?he ?_  | (refine DrP.put (d := ?_) (op := ?_) (t := ?_) (p := ?_) (a := ?_) (v := ?_) (h1 := ?_) ?ho ?hd ?he ?_; (case ho => rfl)) | (refine DrP.eff (op := ?_) (t := ?_) (p := ?_) (a := ?_) (v := ?_) (h1 := ?_) ?ho ?he ?_; (case ho => rfl)) | refine DGuardP.yes (v := ?_) (h1 := ?_) ?he ?_); (try case hd => rfl); (case he => intro run; ((try simp only [evOp, evA, val, vals, oval, parts, get_set, get_nil, ofArgs, ofValue, binOpE, arith, ilt, convertE, unOpE, builtinE, lenE, callV, List.nil_append, List.append_nil, Option.bind_some, Option.map_some, Nat.reduceEqDiff, reduceIte, Bool.not_true, Bool.not_false, List.getElem?_cons_zero, List.getElem?_cons_succ, List.getElem?_toArray, Array.toList, List.mapM_cons, List.mapM_nil, Option.pure_def, Option.bind_eq_bind, h0, h1, h7, h8]) <;> exact rfl)))  | ((first | refine OpsP.guard (x := ?_) (b := ?_) ?hj ?hx ?hd ?_ | (refine DrP.guard (d := ?_) (op := ?_) (t := ?_) (p := ?_) (a := ?_) (j := ?_) (w := ?_) (x := ?_) (b := ?_) ?ho ?hj ?hx ?hd ?_; (case ho => rfl)) | refine EvP.condB (c := ?_) ?hx ?_); (try case hj => rfl); (case hx => ((try simp only [val, get_set, get_nil, ofArgs, ofValue, Nat.reduceEqDiff, reduceIte, Option.map_some, h0, h1, h7, h8]) <;> exact rfl)); (try case hd => rfl)))
        refine ⟨113 - (i + 1), by omega, rfl, ?_, ?_, ?_, i + 1, rfl, by omega, ?_, ?_⟩
        · exact (by (try simp only [val, get_set, get_nil, ofArgs, ofValue, Nat.reduceEqDiff, reduceIte, Option.map_some, h0]) <;> exact rfl)
        · exact (by (try simp only [val, get_set, get_nil, ofArgs, ofValue, Nat.reduceEqDiff, reduceIte, Option.map_some, h1]) <;> exact rfl)
        · exact (by (try simp only [val, get_set, get_nil, ofArgs, ofValue, Nat.reduceEqDiff, reduceIte, Option.map_some, h7]) <;> exact rfl)
        · simp only [get_set, Nat.reduceEqDiff, reduceIte]
          rw [show Int.ofNat i + 1 = Int.ofNat (i + 1) from rfl, wrap_nat .i64 (i + 1) (by simp only [half]; omega)]
        · rw [← hnm, tab_drop i hlt]
          simp only [nmFrom, hlk]
    · have f1 : Nat.blt i 113 = false := by rw [blt_eq]; simp; omega
      have chk_ : True := by simp only [h0, h1, h7, h8, f1]
      clear chk_
      repeat (first | refine EvP.seq ?_ | refine EvP.region ?_ | refine OpsP.nil ?_ | refine GuardP.no ?_ | refine DGuardP.no ?_ | refine DrP.nil ?_ | refine CondP.t ?_ | refine CondP.f ?_ | refine EvP.ret ?_ | refine EvP.skip ?_ | refine EvP.exit ?_ | refine EvP.block ?_ | refine EvP.scope ?_  | ((first | refine OpsP.put (v := ?_) (h1 := ?_) ?hd ?he ?_ | refine OpsP.eff (v := ?_) (h1 := ?_) ?he ?_ | refine GuardP.yes (v := ?_) (h1 := ?_) ?he ?_  | (refine DrP.put (d := ?_) (op := ?_) (t := ?_) (p := ?_) (a := ?_) (v := ?_) (h1 := ?_) ?ho ?hd ?he ?_; (case ho => rfl)) | (refine DrP.eff (op := ?_) (t := ?_) (p := ?_) (a := ?_) (v := ?_) (h1 := ?_) ?ho ?he ?_; (case ho => rfl)) | refine DGuardP.yes (v := ?_) (h1 := ?_) ?he ?_); (try case hd => rfl); (case he => intro run; ((try simp only [evOp, evA, val, vals, oval, parts, get_set, get_nil, ofArgs, ofValue, binOpE, arith, ilt, convertE, unOpE, builtinE, lenE, callV, List.nil_append, List.append_nil, Option.bind_some, Option.map_some, Nat.reduceEqDiff, reduceIte, Bool.not_true, Bool.not_false, List.getElem?_cons_zero, List.getElem?_cons_succ, List.getElem?_toArray, Array.toList, List.mapM_cons, List.mapM_nil, Option.pure_def, Option.bind_eq_bind, h0, h1, h7, h8, f1]) <;> exact rfl)))  | ((first | refine OpsP.guard (x := ?_) (b := ?_) ?hj ?hx ?hd ?_ | (refine DrP.guard (d := ?_) (op := ?_) (t := ?_) (p := ?_) (a := ?_) (j := ?_) (w := ?_) (x := ?_) (b := ?_) ?ho ?hj ?hx ?hd ?_; (case ho => rfl)) | refine EvP.condB (c := ?_) ?hx ?_); (try case hj => rfl); (case hx => ((try simp only [val, get_set, get_nil, ofArgs, ofValue, Nat.reduceEqDiff, reduceIte, Option.map_some, h0, h1, h7, h8, f1]) <;> exact rfl)); (try case hd => rfl)))
      refine ⟨_, rfl, ?_⟩
      simp only [oneOf, get_set, Nat.reduceEqDiff, reduceIte]
      rw [← hnm, List.drop_eq_nil_of_le (by rw [show tab.length = 113 by kernel_rfl]; omega)]
      rfl
theorem index_ok : PureOk Try.prog ov10 30 fIndex := pureOk_of fun vs p hp => by
  unfold fIndex at hp
  split at hp
  · rename_i cells n f s
    split at hp
    · rename_i hc
      cases hp
      obtain ⟨c1, c2, c3⟩ := hc
      have e1 := lvEq_eq _ _ _ c1
      rw [beq_eq, decide_eq_true_iff] at c2
      subst c2
      rw [e1]
      obtain ⟨r, h1, k1, rfl⟩ := index_body s c3
      exact ⟨_, h1, k1, rfl⟩
    · cases hp
  · cases hp
def ov11 : Ov := ov10.with 30 fIndex
theorem ov11_ok : OvOk Try.prog ov11 := Ov.with_ok prog_ok ov10_ok index_ok
end Go.Ev

namespace Go.Ev
open Go.Proofs
set_option linter.unusedSimpArgs false
set_option linter.unusedVariables false
set_option maxHeartbeats 4000000
theorem call11_27 (run : Run) (h : Heap) : callE Try.prog ov11 run 27 [] h = some (.agg tabCells, h) := rfl
theorem call11_31 (run : Run) (h : Heap) : callE Try.prog ov11 run 31 [] h = some (.slice h.next 0 0 113 (some 113) 7, (h.new (.row tabCells 0 0)).2) := rfl
theorem freeze_bare (h : Heap) : ∀ (d : Nat) (v : LV), bareV d v = true → freezeV h d v = some v
  | 0, v, hb => by cases hb
  | d + 1, v, hb => by
    have lists : ∀ (cs : List LV), cs.all (bareV d) = true → cs.mapM (freezeV h d) = some cs := by
      intro cs
      induction cs with
      | nil => intro _; rfl
      | cons c cs ih =>
        intro hc
        rw [List.all_cons, Bool.and_eq_true] at hc
        simp only [List.mapM_cons, freeze_bare h d c hc.1, ih hc.2, Option.pure_def, Option.bind_eq_bind, Option.bind_some]
    unfold bareV at hb
    cases v <;> simp only at hb <;> first | (cases hb; done) | rfl | skip
    case agg cs => show (cs.mapM (freezeV h d)).map LV.agg = _; rw [lists cs hb]; rfl
    case tuple cs => show (cs.mapM (freezeV h d)).map LV.tuple = _; rw [lists cs hb]; rfl
    case iface t u => show (freezeV h d u).map (LV.iface t) = _; rw [freeze_bare h d u hb]; rfl
    case fn f a b =>
      rw [Bool.and_eq_true] at hb
      show ((a.mapM (freezeV h d)).bind fun a => (b.mapM (freezeV h d)).map fun b => LV.fn f a b) = _
      rw [lists a hb.1, Option.bind_some, lists b hb.2]; rfl
theorem tab_bare9 : tabCells.all (bareV 9) = true := by decide +kernel
theorem mapM_bare (h : Heap) (d : Nat) (cs : List LV) (hc : cs.all (bareV d) = true) : cs.mapM (freezeV h d) = some cs := by
  induction cs with
  | nil => rfl
  | cons c cs ih =>
    rw [List.all_cons, Bool.and_eq_true] at hc
    simp only [List.mapM_cons, freeze_bare h d c hc.1, ih hc.2, Option.pure_def, Option.bind_eq_bind, Option.bind_some]
theorem call11_30 (run : Run) {h : Heap} {b c : Nat} {s : List Nat} (cap : Option Nat) (hb : h.get b = some (.row tabCells 0 0)) (hc : h.get c = some (.row [.str s] 0 0)) (hs : strOk s) :
    callE Try.prog ov11 run 30 [.slice b 0 0 113 cap 7, .fn 28 [] [.ptr c 0 0]] h = some (.int .i64 (nmFrom s tab 0), h) := by
  show pureCall fIndex _ h = _
  have v1 : freezeV h 10 (.slice b 0 0 113 cap 7) = some (.vs tabCells 113) := by
    have e : Nat.ble (0 + 113 * 7) tabCells.length = true := by rw [tab_len]; rfl
    have : viewCells h (.slice b 0 0 113 cap 7) = some tabCells := by
      simp only [viewCells, readN, hb, isHi, Nat.beq, e, Bool.and_self, List.drop_zero]
      rw [List.take_of_length_le (by rw [tab_len]; omega)]
    rw [freezeV_slice h 9, this, Option.bind_some, mapM_bare h 9 tabCells tab_bare9, Option.map_some]
  have v2 : freezeV h 10 (.fn 28 [] [.ptr c 0 0]) = some (.fn 28 [] [.vptr [.str s]]) := by
    show ((([] : List LV).mapM (freezeV h 9)).bind fun a => ([LV.ptr c 0 0].mapM (freezeV h 9)).map fun b => LV.fn 28 a b) = _
    have : freezeV h 9 (.ptr c 0 0) = some (.vptr [.str s]) := by
      show ((readN h c 0 0 (rowLen h c - 0)).bind fun cs => (cs.mapM (freezeV h 8)).map LV.vptr) = _
      simp only [rowLen, hc, readN]
      rfl
    simp only [List.mapM_nil, List.mapM_cons, this, Option.pure_def, Option.bind_eq_bind, Option.bind_some, Option.map_some]
  unfold pureCall
  simp only [List.mapM_cons, List.mapM_nil, v1, v2, Option.pure_def, Option.bind_eq_bind, Option.bind_some]
  have : fIndex [.vs tabCells 113, .fn 28 [] [.vptr [.str s]]] = some (none, fun _ => .int .i64 (nmFrom s tab 0)) := by
    show (if lvEq 3 (.vs tabCells 113) (.vs tabCells 113) = true ∧ Nat.beq 28 28 = true ∧ strOk s then some (none, fun _ => .int .i64 (nmFrom s tab 0)) else none : Option Gift) = _
    rw [if_pos ⟨by decide +kernel, rfl, hs⟩]
  rw [this]
  rfl
end Go.Ev

namespace Go.Ev
open Go.Proofs
set_option linter.unusedSimpArgs false
set_option linter.unusedVariables false
set_option maxHeartbeats 4000000
theorem nmFrom_lt (s : List Nat) : ∀ (l : List Row) (i : Nat), nmFrom s l i = -1 ∨ ∃ j, j < i + l.length ∧ nmFrom s l i = Int.ofNat j
  | [], i => .inl rfl
  | r :: l, i => by
    unfold nmFrom
    cases likeL r.2.1 s with
    | true => exact .inr ⟨i, by simp, rfl⟩
    | false =>
      rcases nmFrom_lt s l (i + 1) with h | ⟨j, h1, h2⟩
      · exact .inl h
      · exact .inr ⟨j, by simp; omega, h2⟩
def rowN (i : Int) : LV := match i with | .ofNat i => .tuple [.agg (rowAt i), .bool true] | .negSucc _ => .tuple [.agg noRow, .bool false]
def fNamed : Pure
  | [.str s] => if strOk s then some (none, fun _ => rowN (nmFrom s tab 0)) else none
  | _ => none
theorem sl60 (b : Nat) (h : Heap) : sliceAtOp Try.prog 60 (.slice b 0 0 113 (some 113) 7) none none none h = some (.slice b 0 0 113 (some 113) 7) := by kernel_rfl
theorem named_body (s : List Nat) (hs : strOk s) : ∃ r h1, Evc Try.prog ov11 15 [.str s] Heap.empty (r, h1) ∧ r = rowN (nmFrom s tab 0) := by
  have g0 : (((Heap.empty.new (.row [.str s] 0 0)).2.new (.row noRow 0 0)).2.new (.row tabCells 0 0)).2.get 0 = some (.row [.str s] 0 0) := by simp only [hget_new, hnext_new, hnext_empty, reduceIte, Nat.reduceAdd, Nat.reduceEqDiff]
  have g1 : (((Heap.empty.new (.row [.str s] 0 0)).2.new (.row noRow 0 0)).2.new (.row tabCells 0 0)).2.get 1 = some (.row noRow 0 0) := by simp only [hget_new, hnext_new, hnext_empty, reduceIte, Nat.reduceAdd, Nat.reduceEqDiff]
  have g2 : (((Heap.empty.new (.row [.str s] 0 0)).2.new (.row noRow 0 0)).2.new (.row tabCells 0 0)).2.get 2 = some (.row tabCells 0 0) := by simp only [hget_new, hnext_new, hnext_empty, reduceIte, Nat.reduceAdd, Nat.reduceEqDiff]
  have c30 := fun run => call11_30 run (some 113) g2 g0 hs
  rcases nmFrom_lt s tab 0 with hn | ⟨i, hi, hn⟩
  · have st := store_fresh g1 rfl (new := noRow) rfl rfl
    have ld := load_row (b := 1) (cs := noRow) (h := (((Heap.empty.new (.row [.str s] 0 0)).2.new (.row noRow 0 0)).2.new (.row tabCells 0 0)).2.set 1 (.row noRow 0 0)) (by simp only [hget_set, reduceIte]) rfl
    refine Evc.of rfl Try.func15 rfl rfl ?_
    have chk_ : True := by simp only [zero39, LV.cells, putNew_eq, hnext_empty, hnext_new, Nat.reduceAdd, call11_27, call11_31, sl60, c30, hn, build39, st]
    clear chk_
    repeat (first | refine EvP.seq ?_ | refine EvP.region ?_ | refine OpsP.nil ?_ | refine GuardP.no ?_ | refine DGuardP.no ?_ | refine DrP.nil ?_ | refine CondP.t ?_ | refine CondP.f ?_ | refine EvP.ret ?_ | refine EvP.skip ?_ | refine EvP.exit ?_ | refine EvP.block ?_ | refine EvP.scope ?_  | ((first | refine OpsP.put (v := ?_) (h1 := ?_) ?hd ?he ?_ | refine OpsP.eff (v := ?_) (h1 := ?_) ?he ?_ | refine GuardP.yes (v := ?_) (h1 := ?_) ?he ?_  | (refine DrP.put (d := ?_) (op := ?_) (t := ?_) (p := ?_) (a := ?_) (v := ?_) (h1 := ?_) ?ho ?hd ?he ?_; (case ho => rfl)) | (refine DrP.eff (op := ?_) (t := ?_) (p := ?_) (a := ?_) (v := ?_) (h1 := ?_) ?ho ?he ?_; (case ho => rfl)) | refine DGuardP.yes (v := ?_) (h1 := ?_) ?he ?_); (try case hd => rfl); (case he => intro run; ((try simp only [evOp, evA, val, vals, oval, parts, get_set, get_nil, ofArgs, ofValue, binOpE, arith, ilt, convertE, unOpE, builtinE, lenE, callV, List.nil_append, List.append_nil, Option.bind_some, Option.map_some, Nat.reduceEqDiff, reduceIte, Bool.not_true, Bool.not_false, List.getElem?_cons_zero, List.getElem?_cons_succ, List.getElem?_toArray, Array.toList, List.mapM_cons, List.mapM_nil, Option.pure_def, Option.bind_eq_bind, zero39, LV.cells, putNew_eq, hnext_empty, hnext_new, Nat.reduceAdd, call11_27, call11_31, sl60, c30, hn, build39, st]) <;> exact rfl)))  | ((first | refine OpsP.guard (x := ?_) (b := ?_) ?hj ?hx ?hd ?_ | (refine DrP.guard (d := ?_) (op := ?_) (t := ?_) (p := ?_) (a := ?_) (j := ?_) (w := ?_) (x := ?_) (b := ?_) ?ho ?hj ?hx ?hd ?_; (case ho => rfl)) | refine EvP.condB (c := ?_) ?hx ?_); (try case hj => rfl); (case hx => ((try simp only [val, get_set, get_nil, ofArgs, ofValue, Nat.reduceEqDiff, reduceIte, Option.map_some, zero39, LV.cells, putNew_eq, hnext_empty, hnext_new, Nat.reduceAdd, call11_27, call11_31, sl60, c30, hn, build39, st]) <;> exact rfl)); (try case hd => rfl)))
    refine ⟨[.agg noRow, .bool false], ?_, ?_⟩
    · show resultsE Try.prog _ _ [.cell 2 39, .tmp 3] = _
      simp only [resultsE, get_set, Nat.reduceEqDiff, reduceIte, ld, Option.bind_some, Option.map_some]
    · rw [hn]; rfl
  · have hi : i < 113 := by simpa [show tab.length = 113 by kernel_rfl] using hi
    have e1 : Nat.blt i 0 = false := by rw [blt_eq]; simp
    have hr := rowAt_ok i hi
    have st := store_fresh g1 rfl hr.1 hr.2.1
    have ld := load_row (b := 1) (cs := rowAt i) (h := (((Heap.empty.new (.row [.str s] 0 0)).2.new (.row noRow 0 0)).2.new (.row tabCells 0 0)).2.set 1 (.row (rowAt i) 0 0)) (by simp only [hget_set, reduceIte]) hr.1
    refine Evc.of rfl Try.func15 rfl rfl ?_
    have chk_ : True := by simp only [zero39, LV.cells, putNew_eq, hnext_empty, hnext_new, Nat.reduceAdd, call11_27, call11_31, sl60, c30, hn, e1, index_tab i hi, st]
    clear chk_
    repeat (first | refine EvP.seq ?_ | refine EvP.region ?_ | refine OpsP.nil ?_ | refine GuardP.no ?_ | refine DGuardP.no ?_ | refine DrP.nil ?_ | refine CondP.t ?_ | refine CondP.f ?_ | refine EvP.ret ?_ | refine EvP.skip ?_ | refine EvP.exit ?_ | refine EvP.block ?_ | refine EvP.scope ?_  | ((first | refine OpsP.put (v := ?_) (h1 := ?_) ?hd ?he ?_ | refine OpsP.eff (v := ?_) (h1 := ?_) ?he ?_ | refine GuardP.yes (v := ?_) (h1 := ?_) ?he ?_  | (refine DrP.put (d := ?_) (op := ?_) (t := ?_) (p := ?_) (a := ?_) (v := ?_) (h1 := ?_) ?ho ?hd ?he ?_; (case ho => rfl)) | (refine DrP.eff (op := ?_) (t := ?_) (p := ?_) (a := ?_) (v := ?_) (h1 := ?_) ?ho ?he ?_; (case ho => rfl)) | refine DGuardP.yes (v := ?_) (h1 := ?_) ?he ?_); (try case hd => rfl); (case he => intro run; ((try simp only [evOp, evA, val, vals, oval, parts, get_set, get_nil, ofArgs, ofValue, binOpE, arith, ilt, convertE, unOpE, builtinE, lenE, callV, List.nil_append, List.append_nil, Option.bind_some, Option.map_some, Nat.reduceEqDiff, reduceIte, Bool.not_true, Bool.not_false, List.getElem?_cons_zero, List.getElem?_cons_succ, List.getElem?_toArray, Array.toList, List.mapM_cons, List.mapM_nil, Option.pure_def, Option.bind_eq_bind, zero39, LV.cells, putNew_eq, hnext_empty, hnext_new, Nat.reduceAdd, call11_27, call11_31, sl60, c30, hn, e1, index_tab i hi, st]) <;> exact rfl)))  | ((first | refine OpsP.guard (x := ?_) (b := ?_) ?hj ?hx ?hd ?_ | (refine DrP.guard (d := ?_) (op := ?_) (t := ?_) (p := ?_) (a := ?_) (j := ?_) (w := ?_) (x := ?_) (b := ?_) ?ho ?hj ?hx ?hd ?_; (case ho => rfl)) | refine EvP.condB (c := ?_) ?hx ?_); (try case hj => rfl); (case hx => ((try simp only [val, get_set, get_nil, ofArgs, ofValue, Nat.reduceEqDiff, reduceIte, Option.map_some, zero39, LV.cells, putNew_eq, hnext_empty, hnext_new, Nat.reduceAdd, call11_27, call11_31, sl60, c30, hn, e1, index_tab i hi, st]) <;> exact rfl)); (try case hd => rfl)))
    refine ⟨[.agg (rowAt i), .bool true], ?_, ?_⟩
    · show resultsE Try.prog _ _ [.cell 2 39, .tmp 3] = _
      simp only [resultsE, get_set, Nat.reduceEqDiff, reduceIte, ld, Option.bind_some, Option.map_some]
    · rw [hn]; rfl
end Go.Ev

namespace Go.Ev
open Go.Proofs
set_option linter.unusedSimpArgs false
set_option linter.unusedVariables false
set_option maxHeartbeats 4000000
theorem rowN_bare (s : List Nat) : bareV 10 (rowN (nmFrom s tab 0)) = true := by
  rcases nmFrom_lt s tab 0 with hn | ⟨i, hi, hn⟩
  · rw [hn]; rfl
  · have hi : i < 113 := by simpa [show tab.length = 113 by kernel_rfl] using hi
    rw [hn]
    show (bareV 9 (.agg (rowAt i)) && (bareV 9 (.bool true) && true)) = true
    rw [show bareV 9 (.agg (rowAt i)) = true from rowAt_bare i hi]; rfl
theorem named_ok : PureOk Try.prog ov11 15 fNamed := pureOk_of fun vs p hp => by
  unfold fNamed at hp
  split at hp
  · rename_i s
    split at hp
    · rename_i hc
      cases hp
      obtain ⟨r, h1, k1, rfl⟩ := named_body s hc
      refine ⟨_, h1, k1, ?_⟩
      simp only [giftE, rowN_bare]
    · cases hp
  · cases hp
def ov12 : Ov := ov11.with 15 fNamed
theorem ov12_ok : OvOk Try.prog ov12 := Ov.with_ok prog_ok ov11_ok named_ok
/-! letter -/
def letB (c : Nat) : Bool := Nat.blt 32 c && !Nat.blt 126 c
def fLetter : Pure
  | [.int .u8 (.ofNat c)] => some (none, fun _ => .bool (letB c))
  | _ => none
theorem letter_ok : PureOk Try.prog ov12 37 fLetter := pureOk_of fun vs p hp => by
  unfold fLetter at hp
  split at hp
  · rename_i c
    cases hp
    have key : ∃ r h1, Evc Try.prog ov12 37 [.int .u8 (.ofNat c)] Heap.empty (r, h1) ∧ r = .bool (letB c) := by
      cases e1 : Nat.blt 32 c with
      | true =>
        refine Evc.of rfl Try.func37 rfl rfl ?_
        have chk_ : True := by simp only [e1]
        clear chk_
        repeat (first | refine EvP.seq ?_ | refine EvP.region ?_ | refine OpsP.nil ?_ | refine GuardP.no ?_ | refine DGuardP.no ?_ | refine DrP.nil ?_ | refine CondP.t ?_ | refine CondP.f ?_ | refine EvP.ret ?_ | refine EvP.skip ?_ | refine EvP.exit ?_ | refine EvP.block ?_ | refine EvP.scope ?_  | ((first | refine OpsP.put (v := ?_) (h1 := ?_) ?hd ?he ?_ | refine OpsP.eff (v := ?_) (h1 := ?_) ?he ?_ | refine GuardP.yes (v := ?_) (h1 := ?_) ?he ?_  | (refine DrP.put (d := ?_) (op := ?_) (t := ?_) (p := ?_) (a := ?_) (v := ?_) (h1 := ?_) ?ho ?hd ?he ?_; (case ho => rfl)) | (refine DrP.eff (op := ?_) (t := ?_) (p := ?_) (a := ?_) (v := ?_) (h1 := ?_) ?ho ?he ?_; (case ho => rfl)) | refine DGuardP.yes (v := ?_) (h1 := ?_) ?he ?_); (try case hd => rfl); (case he => intro run; ((try simp only [evOp, evA, val, vals, oval, parts, get_set, get_nil, ofArgs, ofValue, binOpE, arith, ilt, convertE, unOpE, builtinE, lenE, callV, List.nil_append, List.append_nil, Option.bind_some, Option.map_some, Nat.reduceEqDiff, reduceIte, Bool.not_true, Bool.not_false, List.getElem?_cons_zero, List.getElem?_cons_succ, List.getElem?_toArray, Array.toList, List.mapM_cons, List.mapM_nil, Option.pure_def, Option.bind_eq_bind, e1]) <;> exact rfl)))  | ((first | refine OpsP.guard (x := ?_) (b := ?_) ?hj ?hx ?hd ?_ | (refine DrP.guard (d := ?_) (op := ?_) (t := ?_) (p := ?_) (a := ?_) (j := ?_) (w := ?_) (x := ?_) (b := ?_) ?ho ?hj ?hx ?hd ?_; (case ho => rfl)) | refine EvP.condB (c := ?_) ?hx ?_); (try case hj => rfl); (case hx => ((try simp only [val, get_set, get_nil, ofArgs, ofValue, Nat.reduceEqDiff, reduceIte, Option.map_some, e1]) <;> exact rfl)); (try case hd => rfl)))
        refine ⟨_, rfl, ?_⟩
        simp only [oneOf, get_set, Nat.reduceEqDiff, reduceIte, letB, e1, Bool.true_and]
      | false =>
        refine Evc.of rfl Try.func37 rfl rfl ?_
        have chk_ : True := by simp only [e1]
        clear chk_
        repeat (first | refine EvP.seq ?_ | refine EvP.region ?_ | refine OpsP.nil ?_ | refine GuardP.no ?_ | refine DGuardP.no ?_ | refine DrP.nil ?_ | refine CondP.t ?_ | refine CondP.f ?_ | refine EvP.ret ?_ | refine EvP.skip ?_ | refine EvP.exit ?_ | refine EvP.block ?_ | refine EvP.scope ?_  | ((first | refine OpsP.put (v := ?_) (h1 := ?_) ?hd ?he ?_ | refine OpsP.eff (v := ?_) (h1 := ?_) ?he ?_ | refine GuardP.yes (v := ?_) (h1 := ?_) ?he ?_  | (refine DrP.put (d := ?_) (op := ?_) (t := ?_) (p := ?_) (a := ?_) (v := ?_) (h1 := ?_) ?ho ?hd ?he ?_; (case ho => rfl)) | (refine DrP.eff (op := ?_) (t := ?_) (p := ?_) (a := ?_) (v := ?_) (h1 := ?_) ?ho ?he ?_; (case ho => rfl)) | refine DGuardP.yes (v := ?_) (h1 := ?_) ?he ?_); (try case hd => rfl); (case he => intro run; ((try simp only [evOp, evA, val, vals, oval, parts, get_set, get_nil, ofArgs, ofValue, binOpE, arith, ilt, convertE, unOpE, builtinE, lenE, callV, List.nil_append, List.append_nil, Option.bind_some, Option.map_some, Nat.reduceEqDiff, reduceIte, Bool.not_true, Bool.not_false, List.getElem?_cons_zero, List.getElem?_cons_succ, List.getElem?_toArray, Array.toList, List.mapM_cons, List.mapM_nil, Option.pure_def, Option.bind_eq_bind, e1]) <;> exact rfl)))  | ((first | refine OpsP.guard (x := ?_) (b := ?_) ?hj ?hx ?hd ?_ | (refine DrP.guard (d := ?_) (op := ?_) (t := ?_) (p := ?_) (a := ?_) (j := ?_) (w := ?_) (x := ?_) (b := ?_) ?ho ?hj ?hx ?hd ?_; (case ho => rfl)) | refine EvP.condB (c := ?_) ?hx ?_); (try case hj => rfl); (case hx => ((try simp only [val, get_set, get_nil, ofArgs, ofValue, Nat.reduceEqDiff, reduceIte, Option.map_some, e1]) <;> exact rfl)); (try case hd => rfl)))
        refine ⟨_, rfl, ?_⟩
        simp only [oneOf, get_set, Nat.reduceEqDiff, reduceIte, letB, e1, Bool.false_and]
    obtain ⟨r, h1, k1, rfl⟩ := key
    exact ⟨_, h1, k1, rfl⟩
  · cases hp
def ov13 : Ov := ov12.with 37 fLetter
theorem ov13_ok : OvOk Try.prog ov13 := Ov.with_ok prog_ok ov12_ok letter_ok
end Go.Ev

namespace Go.Ev
open Go.Proofs
set_option linter.unusedSimpArgs false
set_option linter.unusedVariables false
set_option maxHeartbeats 4000000
/-! image.Right -/
theorem fa32_0 (b o : Nat) : fieldAddrOp Try.prog 32 (.ptr b 0 o) 0 = some (.ptr b 0 (o + 0)) := by kernel_rfl
theorem fa32_1 (b o : Nat) : fieldAddrOp Try.prog 32 (.ptr b 0 o) 1 = some (.ptr b 0 (o + 1)) := by kernel_rfl
theorem fa32_2 (b o : Nat) : fieldAddrOp Try.prog 32 (.ptr b 0 o) 2 = some (.ptr b 0 (o + 2)) := by kernel_rfl
theorem agg22 : isAggB Try.prog 22 = some false := by kernel_rfl
def flagB (fl : Nat) : Bool := ieq (unwrapU .u8 (Nat.land (bitsOf .u8 (Int.ofNat fl)) (pow2 .u8 - 1 - bitsOf .u8 3))) 0
def rightW (nm : List Nat) (fl : Nat) (len : Nat) : Bool := !Nat.beq nm.length 0 && !Nat.blt 31 nm.length && flagB fl && !Nat.blt 1000 len && nm.all letB
theorem call13_37 (run : Run) (h : Heap) (c : Nat) : callE Try.prog ov13 run 37 [.int .u8 (.ofNat c)] h = some (.bool (letB c), h) := rfl
theorem right_body (nm : List Nat) (fl k : Nat) (cd : LV) (hl : nm.length < 2 ^ 62) (hcell : cd.cells = [cd]) (hne : ∀ h, lenE Try.prog 22 cd h = some (.int .i64 (.ofNat k))) : ∃ r h1, Evc Try.prog ov13 22 [.agg [.str nm, .int .u8 (.ofNat fl), cd]] Heap.empty (r, h1) ∧ r = .bool (rightW nm fl k) := by
  have l0 : loadAt Try.prog 9 (.ptr 0 0 (0 + 0)) (Heap.empty.new (.row [.str nm, .int .u8 (.ofNat fl), cd] 0 0)).2 = some (.str nm) := by
    simp only [loadAt, agg9, readN, hget_new, hnext_empty, reduceIte]; rfl
  have l1 : loadAt Try.prog 5 (.ptr 0 0 (0 + 1)) (Heap.empty.new (.row [.str nm, .int .u8 (.ofNat fl), cd] 0 0)).2 = some (.int .u8 (.ofNat fl)) := by
    simp only [loadAt, agg5, readN, hget_new, hnext_empty, reduceIte]; rfl
  have l2 : loadAt Try.prog 22 (.ptr 0 0 (0 + 2)) (Heap.empty.new (.row [.str nm, .int .u8 (.ofNat fl), cd] 0 0)).2 = some cd := by
    simp only [loadAt, agg22, readN, hget_new, hnext_empty, reduceIte]; rfl
  have ln : ∀ h, lenE Try.prog 9 (.str nm) h = some (.int .i64 (.ofNat nm.length)) := fun h => by simp only [lenE, Try.underlying9]
  refine Evc.of rfl Try.func22 rfl rfl ?_
  cases b0 : Nat.beq nm.length 0 with
  | true =>
    have chk_ : True := by simp only [LV.cells, putNew_eq, hnext_empty, fa32_0, fa32_1, fa32_2, l0, l1, l2, ln, hne, ieq, b0]
    clear chk_
    repeat (first | refine EvP.seq ?_ | refine EvP.region ?_ | refine OpsP.nil ?_ | refine GuardP.no ?_ | refine DGuardP.no ?_ | refine DrP.nil ?_ | refine CondP.t ?_ | refine CondP.f ?_ | refine EvP.ret ?_ | refine EvP.skip ?_ | refine EvP.exit ?_ | refine EvP.block ?_ | refine EvP.scope ?_  | ((first | refine OpsP.put (v := ?_) (h1 := ?_) ?hd ?he ?_ | refine OpsP.eff (v := ?_) (h1 := ?_) ?he ?_ | refine GuardP.yes (v := ?_) (h1 := ?_) ?he ?_  | (refine DrP.put (d := ?_) (op := ?_) (t := ?_) (p := ?_) (a := ?_) (v := ?_) (h1 := ?_) ?ho ?hd ?he ?_; (case ho => rfl)) | (refine DrP.eff (op := ?_) (t := ?_) (p := ?_) (a := ?_) (v := ?_) (h1 := ?_) ?ho ?he ?_; (case ho => rfl)) | refine DGuardP.yes (v := ?_) (h1 := ?_) ?he ?_); (try case hd => rfl); (case he => intro run; ((try simp only [evOp, evA, val, vals, oval, parts, get_set, get_nil, ofArgs, ofValue, binOpE, arith, ilt, convertE, unOpE, builtinE, callV, List.nil_append, List.append_nil, Option.bind_some, Option.map_some, Nat.reduceEqDiff, reduceIte, Bool.not_true, Bool.not_false, List.getElem?_cons_zero, List.getElem?_cons_succ, List.getElem?_toArray, Array.toList, List.mapM_cons, List.mapM_nil, Option.pure_def, Option.bind_eq_bind, LV.cells, putNew_eq, hnext_empty, fa32_0, fa32_1, fa32_2, l0, l1, l2, ln, hne, ieq, b0]) <;> exact rfl)))  | ((first | refine OpsP.guard (x := ?_) (b := ?_) ?hj ?hx ?hd ?_ | (refine DrP.guard (d := ?_) (op := ?_) (t := ?_) (p := ?_) (a := ?_) (j := ?_) (w := ?_) (x := ?_) (b := ?_) ?ho ?hj ?hx ?hd ?_; (case ho => rfl)) | refine EvP.condB (c := ?_) ?hx ?_); (try case hj => rfl); (case hx => ((try simp only [val, get_set, get_nil, ofArgs, ofValue, Nat.reduceEqDiff, reduceIte, Option.map_some, LV.cells, putNew_eq, hnext_empty, fa32_0, fa32_1, fa32_2, l0, l1, l2, ln, hne, ieq, b0]) <;> exact rfl)); (try case hd => rfl)))
    refine ⟨_, rfl, ?_⟩
    simp only [oneOf, get_set, Nat.reduceEqDiff, reduceIte, rightW, b0, Bool.not_true, Bool.false_and]
  | false =>
    cases b1 : Nat.blt 31 nm.length with
    | true =>
      have chk_ : True := by simp only [LV.cells, putNew_eq, hnext_empty, fa32_0, fa32_1, fa32_2, l0, l1, l2, ln, hne, ieq, b0, b1]
      clear chk_
      repeat (first | refine EvP.seq ?_ | refine EvP.region ?_ | refine OpsP.nil ?_ | refine GuardP.no ?_ | refine DGuardP.no ?_ | refine DrP.nil ?_ | refine CondP.t ?_ | refine CondP.f ?_ | refine EvP.ret ?_ | refine EvP.skip ?_ | refine EvP.exit ?_ | refine EvP.block ?_ | refine EvP.scope ?_  | ((first | refine OpsP.put (v := ?_) (h1 := ?_) ?hd ?he ?_ | refine OpsP.eff (v := ?_) (h1 := ?_) ?he ?_ | refine GuardP.yes (v := ?_) (h1 := ?_) ?he ?_  | (refine DrP.put (d := ?_) (op := ?_) (t := ?_) (p := ?_) (a := ?_) (v := ?_) (h1 := ?_) ?ho ?hd ?he ?_; (case ho => rfl)) | (refine DrP.eff (op := ?_) (t := ?_) (p := ?_) (a := ?_) (v := ?_) (h1 := ?_) ?ho ?he ?_; (case ho => rfl)) | refine DGuardP.yes (v := ?_) (h1 := ?_) ?he ?_); (try case hd => rfl); (case he => intro run; ((try simp only [evOp, evA, val, vals, oval, parts, get_set, get_nil, ofArgs, ofValue, binOpE, arith, ilt, convertE, unOpE, builtinE, callV, List.nil_append, List.append_nil, Option.bind_some, Option.map_some, Nat.reduceEqDiff, reduceIte, Bool.not_true, Bool.not_false, List.getElem?_cons_zero, List.getElem?_cons_succ, List.getElem?_toArray, Array.toList, List.mapM_cons, List.mapM_nil, Option.pure_def, Option.bind_eq_bind, LV.cells, putNew_eq, hnext_empty, fa32_0, fa32_1, fa32_2, l0, l1, l2, ln, hne, ieq, b0, b1]) <;> exact rfl)))  | ((first | refine OpsP.guard (x := ?_) (b := ?_) ?hj ?hx ?hd ?_ | (refine DrP.guard (d := ?_) (op := ?_) (t := ?_) (p := ?_) (a := ?_) (j := ?_) (w := ?_) (x := ?_) (b := ?_) ?ho ?hj ?hx ?hd ?_; (case ho => rfl)) | refine EvP.condB (c := ?_) ?hx ?_); (try case hj => rfl); (case hx => ((try simp only [val, get_set, get_nil, ofArgs, ofValue, Nat.reduceEqDiff, reduceIte, Option.map_some, LV.cells, putNew_eq, hnext_empty, fa32_0, fa32_1, fa32_2, l0, l1, l2, ln, hne, ieq, b0, b1]) <;> exact rfl)); (try case hd => rfl)))
      refine ⟨_, rfl, ?_⟩
      simp only [oneOf, get_set, Nat.reduceEqDiff, reduceIte, rightW, b0, b1, Bool.not_true, Bool.false_and, Bool.and_false]
    | false =>
      have c0 : ieq (Int.ofNat nm.length) 0 = false := b0
      cases b2 : flagB fl with
      | false =>
        have c2 : ieq (unwrapU .u8 (Nat.land (bitsOf .u8 (Int.ofNat fl)) (pow2 .u8 - 1 - bitsOf .u8 3))) 0 = false := b2
        have chk_ : True := by simp only [LV.cells, putNew_eq, hnext_empty, fa32_0, fa32_1, fa32_2, l0, l1, l2, ln, hne, c0, b1, c2]
        clear chk_
        repeat (first | refine EvP.seq ?_ | refine EvP.region ?_ | refine OpsP.nil ?_ | refine GuardP.no ?_ | refine DGuardP.no ?_ | refine DrP.nil ?_ | refine CondP.t ?_ | refine CondP.f ?_ | refine EvP.ret ?_ | refine EvP.skip ?_ | refine EvP.exit ?_ | refine EvP.block ?_ | refine EvP.scope ?_  | ((first | refine OpsP.put (v := ?_) (h1 := ?_) ?hd ?he ?_ | refine OpsP.eff (v := ?_) (h1 := ?_) ?he ?_ | refine GuardP.yes (v := ?_) (h1 := ?_) ?he ?_  | (refine DrP.put (d := ?_) (op := ?_) (t := ?_) (p := ?_) (a := ?_) (v := ?_) (h1 := ?_) ?ho ?hd ?he ?_; (case ho => rfl)) | (refine DrP.eff (op := ?_) (t := ?_) (p := ?_) (a := ?_) (v := ?_) (h1 := ?_) ?ho ?he ?_; (case ho => rfl)) | refine DGuardP.yes (v := ?_) (h1 := ?_) ?he ?_); (try case hd => rfl); (case he => intro run; ((try simp only [evOp, evA, val, vals, oval, parts, get_set, get_nil, ofArgs, ofValue, binOpE, arith, ilt, convertE, unOpE, builtinE, callV, List.nil_append, List.append_nil, Option.bind_some, Option.map_some, Nat.reduceEqDiff, reduceIte, Bool.not_true, Bool.not_false, List.getElem?_cons_zero, List.getElem?_cons_succ, List.getElem?_toArray, Array.toList, List.mapM_cons, List.mapM_nil, Option.pure_def, Option.bind_eq_bind, LV.cells, putNew_eq, hnext_empty, fa32_0, fa32_1, fa32_2, l0, l1, l2, ln, hne, c0, b1, c2]) <;> exact rfl)))  | ((first | refine OpsP.guard (x := ?_) (b := ?_) ?hj ?hx ?hd ?_ | (refine DrP.guard (d := ?_) (op := ?_) (t := ?_) (p := ?_) (a := ?_) (j := ?_) (w := ?_) (x := ?_) (b := ?_) ?ho ?hj ?hx ?hd ?_; (case ho => rfl)) | refine EvP.condB (c := ?_) ?hx ?_); (try case hj => rfl); (case hx => ((try simp only [val, get_set, get_nil, ofArgs, ofValue, Nat.reduceEqDiff, reduceIte, Option.map_some, LV.cells, putNew_eq, hnext_empty, fa32_0, fa32_1, fa32_2, l0, l1, l2, ln, hne, c0, b1, c2]) <;> exact rfl)); (try case hd => rfl)))
        refine ⟨_, rfl, ?_⟩
        simp only [oneOf, get_set, Nat.reduceEqDiff, reduceIte, rightW, b0, b1, b2, Bool.not_true, Bool.false_and, Bool.and_false]
      | true =>
        have c2 : ieq (unwrapU .u8 (Nat.land (bitsOf .u8 (Int.ofNat fl)) (pow2 .u8 - 1 - bitsOf .u8 3))) 0 = true := b2
        cases b3 : Nat.blt 1000 k with
        | true =>
          have chk_ : True := by simp only [LV.cells, putNew_eq, hnext_empty, fa32_0, fa32_1, fa32_2, l0, l1, l2, ln, hne, c0, b1, c2, b3]
          clear chk_
          repeat (first | refine EvP.seq ?_ | refine EvP.region ?_ | refine OpsP.nil ?_ | refine GuardP.no ?_ | refine DGuardP.no ?_ | refine DrP.nil ?_ | refine CondP.t ?_ | refine CondP.f ?_ | refine EvP.ret ?_ | refine EvP.skip ?_ | refine EvP.exit ?_ | refine EvP.block ?_ | refine EvP.scope ?_  | ((first | refine OpsP.put (v := ?_) (h1 := ?_) ?hd ?he ?_ | refine OpsP.eff (v := ?_) (h1 := ?_) ?he ?_ | refine GuardP.yes (v := ?_) (h1 := ?_) ?he ?_  | (refine DrP.put (d := ?_) (op := ?_) (t := ?_) (p := ?_) (a := ?_) (v := ?_) (h1 := ?_) ?ho ?hd ?he ?_; (case ho => rfl)) | (refine DrP.eff (op := ?_) (t := ?_) (p := ?_) (a := ?_) (v := ?_) (h1 := ?_) ?ho ?he ?_; (case ho => rfl)) | refine DGuardP.yes (v := ?_) (h1 := ?_) ?he ?_); (try case hd => rfl); (case he => intro run; ((try simp only [evOp, evA, val, vals, oval, parts, get_set, get_nil, ofArgs, ofValue, binOpE, arith, ilt, convertE, unOpE, builtinE, callV, List.nil_append, List.append_nil, Option.bind_some, Option.map_some, Nat.reduceEqDiff, reduceIte, Bool.not_true, Bool.not_false, List.getElem?_cons_zero, List.getElem?_cons_succ, List.getElem?_toArray, Array.toList, List.mapM_cons, List.mapM_nil, Option.pure_def, Option.bind_eq_bind, LV.cells, putNew_eq, hnext_empty, fa32_0, fa32_1, fa32_2, l0, l1, l2, ln, hne, c0, b1, c2, b3]) <;> exact rfl)))  | ((first | refine OpsP.guard (x := ?_) (b := ?_) ?hj ?hx ?hd ?_ | (refine DrP.guard (d := ?_) (op := ?_) (t := ?_) (p := ?_) (a := ?_) (j := ?_) (w := ?_) (x := ?_) (b := ?_) ?ho ?hj ?hx ?hd ?_; (case ho => rfl)) | refine EvP.condB (c := ?_) ?hx ?_); (try case hj => rfl); (case hx => ((try simp only [val, get_set, get_nil, ofArgs, ofValue, Nat.reduceEqDiff, reduceIte, Option.map_some, LV.cells, putNew_eq, hnext_empty, fa32_0, fa32_1, fa32_2, l0, l1, l2, ln, hne, c0, b1, c2, b3]) <;> exact rfl)); (try case hd => rfl)))
          refine ⟨_, rfl, ?_⟩
          simp only [oneOf, get_set, Nat.reduceEqDiff, reduceIte, rightW, b0, b1, b2, b3, Bool.not_true, Bool.false_and, Bool.and_false]
        | false =>
          have chk_ : True := by simp only [LV.cells, putNew_eq, hnext_empty, fa32_0, fa32_1, fa32_2, l0, l1, l2, ln, hne, c0, b1, c2, b3]
          clear chk_
          repeat (first | refine EvP.seq ?_ | refine EvP.region ?_ | refine OpsP.nil ?_ | refine GuardP.no ?_ | refine DGuardP.no ?_ | refine DrP.nil ?_ | refine CondP.t ?_ | refine CondP.f ?_ | refine EvP.ret ?_ | refine EvP.skip ?_ | refine EvP.exit ?_ | refine EvP.block ?_ | refine EvP.scope ?_  | ((first | refine OpsP.put (v := ?_) (h1 := ?_) ?hd ?he ?_ | refine OpsP.eff (v := ?_) (h1 := ?_) ?he ?_ | refine GuardP.yes (v := ?_) (h1 := ?_) ?he ?_  | (refine DrP.put (d := ?_) (op := ?_) (t := ?_) (p := ?_) (a := ?_) (v := ?_) (h1 := ?_) ?ho ?hd ?he ?_; (case ho => rfl)) | (refine DrP.eff (op := ?_) (t := ?_) (p := ?_) (a := ?_) (v := ?_) (h1 := ?_) ?ho ?he ?_; (case ho => rfl)) | refine DGuardP.yes (v := ?_) (h1 := ?_) ?he ?_); (try case hd => rfl); (case he => intro run; ((try simp only [evOp, evA, val, vals, oval, parts, get_set, get_nil, ofArgs, ofValue, binOpE, arith, ilt, convertE, unOpE, builtinE, callV, List.nil_append, List.append_nil, Option.bind_some, Option.map_some, Nat.reduceEqDiff, reduceIte, Bool.not_true, Bool.not_false, List.getElem?_cons_zero, List.getElem?_cons_succ, List.getElem?_toArray, Array.toList, List.mapM_cons, List.mapM_nil, Option.pure_def, Option.bind_eq_bind, LV.cells, putNew_eq, hnext_empty, fa32_0, fa32_1, fa32_2, l0, l1, l2, ln, hne, c0, b1, c2, b3]) <;> exact rfl)))  | ((first | refine OpsP.guard (x := ?_) (b := ?_) ?hj ?hx ?hd ?_ | (refine DrP.guard (d := ?_) (op := ?_) (t := ?_) (p := ?_) (a := ?_) (j := ?_) (w := ?_) (x := ?_) (b := ?_) ?ho ?hj ?hx ?hd ?_; (case ho => rfl)) | refine EvP.condB (c := ?_) ?hx ?_); (try case hj => rfl); (case hx => ((try simp only [val, get_set, get_nil, ofArgs, ofValue, Nat.reduceEqDiff, reduceIte, Option.map_some, LV.cells, putNew_eq, hnext_empty, fa32_0, fa32_1, fa32_2, l0, l1, l2, ln, hne, c0, b1, c2, b3]) <;> exact rfl)); (try case hd => rfl)))
          refine EvP.loop (fun m tm h => h = (Heap.empty.new (.row [.str nm, .int .u8 (.ofNat fl), cd] 0 0)).2 ∧ tm.get 1 = .ptr 0 0 0 ∧ tm.get 3 = .fn 37 [] [] ∧ tm.get 27 = .int .i64 (.ofNat nm.length) ∧
            ∃ i, m = nm.length - i ∧ i ≤ nm.length ∧ tm.get 28 = .int .i64 (.ofNat i) ∧ (nm.drop i).all letB = nm.all letB) nm.length ?_ ?_
          · refine ⟨rfl, ?_, ?_, ?_, 0, rfl, by omega, ?_, rfl⟩
            · exact (by (try simp only [val, get_set, get_nil, ofArgs, ofValue, Nat.reduceEqDiff, reduceIte, Option.map_some]) <;> exact rfl)
            · exact (by (try simp only [val, get_set, get_nil, ofArgs, ofValue, Nat.reduceEqDiff, reduceIte, Option.map_some]) <;> exact rfl)
            · exact (by (try simp only [val, get_set, get_nil, ofArgs, ofValue, Nat.reduceEqDiff, reduceIte, Option.map_some]) <;> exact rfl)
            · exact (by (try simp only [val, get_set, get_nil, ofArgs, ofValue, Nat.reduceEqDiff, reduceIte, Option.map_some]) <;> exact rfl)
          · rintro m tm h ⟨rfl, h1, h3, h27, i, rfl, hi, h28, hall⟩
            by_cases hlt : i < nm.length
            · have f1 : Nat.blt i nm.length = true := by rw [blt_eq]; simp; omega
              have da : nm.drop i = nm[i] :: nm.drop (i + 1) := List.drop_eq_getElem_cons hlt
              have chk_ : True := by simp only [LV.cells, putNew_eq, hnext_empty, fa32_0, l0, ln, h1, h3, h27, h28, f1, Try.underlying9, indexOp, asNat?, da, call13_37]
              clear chk_
              repeat (first | refine EvP.seq ?_ | refine EvP.region ?_ | refine OpsP.nil ?_ | refine GuardP.no ?_ | refine DGuardP.no ?_ | refine DrP.nil ?_ | refine CondP.t ?_ | refine CondP.f ?_ | refine EvP.ret ?_ | refine EvP.skip ?_ | refine EvP.exit ?_ | refine EvP.block ?_ | refine EvP.scope ?_  | ((first | refine OpsP.put (v := ?_) (h1 := ?_) ?hd ?he ?_ | refine OpsP.eff (v := ?_) (h1 := ?_) ?he ?_ | refine GuardP.yes (v := ?_) (h1 := ?_) ?he ?_  | (refine DrP.put (d := ?_) (op := ?_) (t := ?_) (p := ?_) (a := ?_) (v := ?_) (h1 := ?_) ?ho ?hd ?he ?_; (case ho => rfl)) | (refine DrP.eff (op := ?_) (t := ?_) (p := ?_) (a := ?_) (v := ?_) (h1 := ?_) ?ho ?he ?_; (case ho => rfl)) | refine DGuardP.yes (v := ?_) (h1 := ?_) ?he ?_); (try case hd => rfl); (case he => intro run; ((try simp only [evOp, evA, val, vals, oval, parts, get_set, get_nil, ofArgs, ofValue, binOpE, arith, ilt, convertE, unOpE, builtinE, callV, List.nil_append, List.append_nil, Option.bind_some, Option.map_some, Nat.reduceEqDiff, reduceIte, Bool.not_true, Bool.not_false, List.getElem?_cons_zero, List.getElem?_cons_succ, List.getElem?_toArray, Array.toList, List.mapM_cons, List.mapM_nil, Option.pure_def, Option.bind_eq_bind, LV.cells, putNew_eq, hnext_empty, fa32_0, l0, ln, h1, h3, h27, h28, f1, Try.underlying9, indexOp, asNat?, da, call13_37]) <;> exact rfl)))  | ((first | refine OpsP.guard (x := ?_) (b := ?_) ?hj ?hx ?hd ?_ | (refine DrP.guard (d := ?_) (op := ?_) (t := ?_) (p := ?_) (a := ?_) (j := ?_) (w := ?_) (x := ?_) (b := ?_) ?ho ?hj ?hx ?hd ?_; (case ho => rfl)) | refine EvP.condB (c := ?_) ?hx ?_); (try case hj => rfl); (case hx => ((try simp only [val, get_set, get_nil, ofArgs, ofValue, Nat.reduceEqDiff, reduceIte, Option.map_some, LV.cells, putNew_eq, hnext_empty, fa32_0, l0, ln, h1, h3, h27, h28, f1, Try.underlying9, indexOp, asNat?, da, call13_37]) <;> exact rfl)); (try case hd => rfl)))
              cases hlb : letB nm[i] with
              | false =>
                have chk_ : True := by simp only [h1]
                clear chk_
                repeat (first | refine EvP.seq ?_ | refine EvP.region ?_ | refine OpsP.nil ?_ | refine GuardP.no ?_ | refine DGuardP.no ?_ | refine DrP.nil ?_ | refine CondP.t ?_ | refine CondP.f ?_ | refine EvP.ret ?_ | refine EvP.skip ?_ | refine EvP.exit ?_ | refine EvP.block ?_ | refine EvP.scope ?_  | ((first | refine OpsP.put (v := ?_) (h1 := ?_) ?hd ?he ?_ | refine OpsP.eff (v := ?_) (h1 := ?_) ?he ?_ | refine GuardP.yes (v := ?_) (h1 := ?_) ?he ?_  | (refine DrP.put (d := ?_) (op := ?_) (t := ?_) (p := ?_) (a := ?_) (v := ?_) (h1 := ?_) ?ho ?hd ?he ?_; (case ho => rfl)) | (refine DrP.eff (op := ?_) (t := ?_) (p := ?_) (a := ?_) (v := ?_) (h1 := ?_) ?ho ?he ?_; (case ho => rfl)) | refine DGuardP.yes (v := ?_) (h1 := ?_) ?he ?_); (try case hd => rfl); (case he => intro run; ((try simp only [evOp, evA, val, vals, oval, parts, get_set, get_nil, ofArgs, ofValue, binOpE, arith, ilt, convertE, unOpE, builtinE, lenE, callV, List.nil_append, List.append_nil, Option.bind_some, Option.map_some, Nat.reduceEqDiff, reduceIte, Bool.not_true, Bool.not_false, List.getElem?_cons_zero, List.getElem?_cons_succ, List.getElem?_toArray, Array.toList, List.mapM_cons, List.mapM_nil, Option.pure_def, Option.bind_eq_bind, h1]) <;> exact rfl)))  | ((first | refine OpsP.guard (x := ?_) (b := ?_) ?hj ?hx ?hd ?_ | (refine DrP.guard (d := ?_) (op := ?_) (t := ?_) (p := ?_) (a := ?_) (j := ?_) (w := ?_) (x := ?_) (b := ?_) ?ho ?hj ?hx ?hd ?_; (case ho => rfl)) | refine EvP.condB (c := ?_) ?hx ?_); (try case hj => rfl); (case hx => ((try simp only [val, get_set, get_nil, ofArgs, ofValue, Nat.reduceEqDiff, reduceIte, Option.map_some, h1]) <;> exact rfl)); (try case hd => rfl)))
                refine ⟨_, rfl, ?_⟩
                simp only [oneOf, get_set, Nat.reduceEqDiff, reduceIte, rightW, b0, b1, b2, b3, Bool.not_true, Bool.not_false, Bool.true_and]
                rw [← hall, da, List.all_cons, hlb, Bool.false_and]
              | true =>
                have chk_ : True := by simp only [h1, h28]
                clear chk_
                repeat (first | refine EvP.seq ?_ | refine EvP.region ?_ | refine OpsP.nil ?_ | refine GuardP.no ?_ | refine DGuardP.no ?_ | refine DrP.nil ?_ | refine CondP.t ?_ | refine CondP.f ?_ | refine EvP.ret ?_ | refine EvP.skip ?_ | refine EvP.exit ?_ | refine EvP.block ?_ | refine EvP.scope ?_  | ((first | refine OpsP.put (v := ?_) (h1 := ?_) ?hd ?he ?_ | refine OpsP.eff (v := ?_) (h1 := ?_) ?he ?_ | refine GuardP.yes (v := ?_) (h1 := ?_) ?he ?_  | (refine DrP.put (d := ?_) (op := ?_) (t := ?_) (p := ?_) (a := ?_) (v := ?_) (h1 := ?_) ?ho ?hd ?he ?_; (case ho => rfl)) | (refine DrP.eff (op := ?_) (t := ?_) (p := ?_) (a := ?_) (v := ?_) (h1 := ?_) ?ho ?he ?_; (case ho => rfl)) | refine DGuardP.yes (v := ?_) (h1 := ?_) ?he ?_); (try case hd => rfl); (case he => intro run; ((try simp only [evOp, evA, val, vals, oval, parts, get_set, get_nil, ofArgs, ofValue, binOpE, arith, ilt, convertE, unOpE, builtinE, lenE, callV, List.nil_append, List.append_nil, Option.bind_some, Option.map_some, Nat.reduceEqDiff, reduceIte, Bool.not_true, Bool.not_false, List.getElem?_cons_zero, List.getElem?_cons_succ, List.getElem?_toArray, Array.toList, List.mapM_cons, List.mapM_nil, Option.pure_def, Option.bind_eq_bind, h1, h28]) <;> exact rfl)))  | ((first | refine OpsP.guard (x := ?_) (b := ?_) ?hj ?hx ?hd ?_ | (refine DrP.guard (d := ?_) (op := ?_) (t := ?_) (p := ?_) (a := ?_) (j := ?_) (w := ?_) (x := ?_) (b := ?_) ?ho ?hj ?hx ?hd ?_; (case ho => rfl)) | refine EvP.condB (c := ?_) ?hx ?_); (try case hj => rfl); (case hx => ((try simp only [val, get_set, get_nil, ofArgs, ofValue, Nat.reduceEqDiff, reduceIte, Option.map_some, h1, h28]) <;> exact rfl)); (try case hd => rfl)))
                refine ⟨nm.length - (i + 1), by omega, rfl, ?_, ?_, ?_, i + 1, rfl, by omega, ?_, ?_⟩
                · exact (by (try simp only [val, get_set, get_nil, ofArgs, ofValue, Nat.reduceEqDiff, reduceIte, Option.map_some, h1]) <;> exact rfl)
                · exact (by (try simp only [val, get_set, get_nil, ofArgs, ofValue, Nat.reduceEqDiff, reduceIte, Option.map_some, h3]) <;> exact rfl)
                · exact (by (try simp only [val, get_set, get_nil, ofArgs, ofValue, Nat.reduceEqDiff, reduceIte, Option.map_some, h27]) <;> exact rfl)
                · simp only [get_set, Nat.reduceEqDiff, reduceIte]
                  rw [show Int.ofNat i + 1 = Int.ofNat (i + 1) from rfl, wrap_nat .i64 (i + 1) (by simp only [half]; omega)]
                · rw [← hall, da, List.all_cons, hlb, Bool.true_and]
            · have f1 : Nat.blt i nm.length = false := by rw [blt_eq]; simp; omega
              have chk_ : True := by simp only [h27, h28, f1]
              clear chk_
              repeat (first | refine EvP.seq ?_ | refine EvP.region ?_ | refine OpsP.nil ?_ | refine GuardP.no ?_ | refine DGuardP.no ?_ | refine DrP.nil ?_ | refine CondP.t ?_ | refine CondP.f ?_ | refine EvP.ret ?_ | refine EvP.skip ?_ | refine EvP.exit ?_ | refine EvP.block ?_ | refine EvP.scope ?_  | ((first | refine OpsP.put (v := ?_) (h1 := ?_) ?hd ?he ?_ | refine OpsP.eff (v := ?_) (h1 := ?_) ?he ?_ | refine GuardP.yes (v := ?_) (h1 := ?_) ?he ?_  | (refine DrP.put (d := ?_) (op := ?_) (t := ?_) (p := ?_) (a := ?_) (v := ?_) (h1 := ?_) ?ho ?hd ?he ?_; (case ho => rfl)) | (refine DrP.eff (op := ?_) (t := ?_) (p := ?_) (a := ?_) (v := ?_) (h1 := ?_) ?ho ?he ?_; (case ho => rfl)) | refine DGuardP.yes (v := ?_) (h1 := ?_) ?he ?_); (try case hd => rfl); (case he => intro run; ((try simp only [evOp, evA, val, vals, oval, parts, get_set, get_nil, ofArgs, ofValue, binOpE, arith, ilt, convertE, unOpE, builtinE, lenE, callV, List.nil_append, List.append_nil, Option.bind_some, Option.map_some, Nat.reduceEqDiff, reduceIte, Bool.not_true, Bool.not_false, List.getElem?_cons_zero, List.getElem?_cons_succ, List.getElem?_toArray, Array.toList, List.mapM_cons, List.mapM_nil, Option.pure_def, Option.bind_eq_bind, h27, h28, f1]) <;> exact rfl)))  | ((first | refine OpsP.guard (x := ?_) (b := ?_) ?hj ?hx ?hd ?_ | (refine DrP.guard (d := ?_) (op := ?_) (t := ?_) (p := ?_) (a := ?_) (j := ?_) (w := ?_) (x := ?_) (b := ?_) ?ho ?hj ?hx ?hd ?_; (case ho => rfl)) | refine EvP.condB (c := ?_) ?hx ?_); (try case hj => rfl); (case hx => ((try simp only [val, get_set, get_nil, ofArgs, ofValue, Nat.reduceEqDiff, reduceIte, Option.map_some, h27, h28, f1]) <;> exact rfl)); (try case hd => rfl)))
              refine ⟨_, rfl, ?_⟩
              simp only [oneOf, get_set, Nat.reduceEqDiff, reduceIte, rightW, b0, b1, b2, b3, Bool.not_true, Bool.not_false, Bool.true_and]
              rw [← hall, List.drop_eq_nil_of_le (by omega)]
              rfl
end Go.Ev

namespace Go.Ev
open Go.Proofs
set_option linter.unusedSimpArgs false
set_option linter.unusedVariables false
set_option maxHeartbeats 4000000
def codeLen : LV → Option Nat
  | .nils => some 0
  | .vs _ k => some k
  | _ => none
def fRight : Pure
  | [.agg [.str nm, .int .u8 (.ofNat fl), cd]] => (codeLen cd).bind fun k => if strOk nm then some (none, fun _ => .bool (rightW nm fl k)) else none
  | _ => none
theorem len22 (cd : LV) (k : Nat) (hk : codeLen cd = some k) (h : Heap) : lenE Try.prog 22 cd h = some (.int .i64 (.ofNat k)) := by
  have hu : ∃ e, Try.prog.underlying 22 = some (.slice e) := ⟨36, by kernel_rfl⟩
  obtain ⟨e, hu⟩ := hu
  cases cd <;> simp only [codeLen] at hk <;> cases hk <;> simp only [lenE, hu, lenOf?, Option.map_some]
theorem right_ok : PureOk Try.prog ov13 22 fRight := pureOk_of fun vs p hp => by
  unfold fRight at hp
  split at hp
  · rename_i nm fl cd
    obtain ⟨k, hk, hp⟩ := bnd hp
    split at hp
    · rename_i hc
      cases hp
      obtain ⟨r, h1, k1, rfl⟩ := right_body nm fl k cd hc.2 (by cases cd <;> simp only [codeLen] at hk <;> cases hk <;> rfl) (len22 cd k hk)
      exact ⟨_, h1, k1, rfl⟩
    · cases hp
  · cases hp
def ov14 : Ov := ov13.with 22 fRight
theorem ov14_ok : OvOk Try.prog ov14 := Ov.with_ok prog_ok ov13_ok right_ok
end Go.Ev

namespace Go.Ev
open Go.Proofs
def fAwake : Pure
  | [] => some (none, fun _ => .bool true)
  | _ => none
theorem awake_ok : PureOk Try.prog ov14 8 fAwake := pureOk_run fun vs p hp => by
  cases vs with
  | nil => cases hp; exact ⟨400, by kernel_rfl⟩
  | cons _ _ => cases hp
end Go.Ev

namespace Go.Ev
open Go.Proofs
set_option linter.unusedSimpArgs false
set_option linter.unusedVariables false
set_option maxHeartbeats 4000000
def ov15 : Ov := ov14.with 8 fAwake
theorem ov15_ok : OvOk Try.prog ov15 := Ov.with_ok prog_ok ov14_ok awake_ok
/-! All -/
def fAll : Pure
  | [] => some (some (.row tabCells 112 7), fun id => .slice id 112 0 113 none 7)
  | _ => none
theorem all_ok : PureOk Try.prog ov15 20 fAll := pureOk_run fun vs p hp => by
  cases vs with
  | nil => cases hp; exact ⟨300, by kernel_rfl⟩
  | cons _ _ => cases hp
def ov16 : Ov := ov15.with 20 fAll
theorem ov16_ok : OvOk Try.prog ov16 := Ov.with_ok prog_ok ov15_ok all_ok
theorem call16_8 (run : Run) (h : Heap) : callE Try.prog ov16 run 8 [] h = some (.bool true, h) := rfl
theorem call16_20 (run : Run) (h : Heap) : callE Try.prog ov16 run 20 [] h = some (.slice h.next 112 0 113 none 7, (h.new (.row tabCells 112 7)).2) := rfl
theorem call16_13 (run : Run) (h : Heap) (n : Nat) : callE Try.prog ov16 run 13 [.int .u32 (.ofNat n)] h = some (getN n, h) := rfl
theorem call16_15 (run : Run) (h : Heap) (s : List Nat) (hs : strOk s) : callE Try.prog ov16 run 15 [.str s] h = some (rowN (nmFrom s tab 0), h) := by
  show ((fNamed [.str s]).map (putGift h)) = _
  have : fNamed [.str s] = some (none, fun _ => rowN (nmFrom s tab 0)) := by
    show (if strOk s then some (none, fun _ => rowN (nmFrom s tab 0)) else none : Option Gift) = _
    rw [if_pos hs]
  rw [this]
  rfl
end Go.Ev

namespace Go.Ev
open Go.Proofs
set_option linter.unusedSimpArgs false
set_option linter.unusedVariables false
set_option maxHeartbeats 4000000
/-- What the table is. -/
def rowGood (i : Nat) : Bool :=
  match rowOfTab i with
  | (a, nm, c, d, e, f, g) => (spotN a == Int.ofNat i) && (nmFrom nm tab 0 == Int.ofNat i) && Nat.blt 0 a && Nat.blt a 256 && !(f && g) && (!(f || g) || Nat.beq e 1) && Nat.ble e 2 && (Nat.beq i 0 || Nat.blt (rowOfTab (i - 1)).1 a) && rightW nm 0 0
theorem rows_good : ∀ i, i < 113 → rowGood i = true := by decide +kernel
end Go.Ev

namespace Go.Ev
open Go.Proofs
set_option linter.unusedSimpArgs false
set_option linter.unusedVariables false
set_option maxHeartbeats 4000000
theorem num_spot : ∀ i, i < 113 → (rowOfTab i).1 = (if i < 73 then i + 1 else i - 73 + 101) := by decide +kernel
/-- Where a number stands among the first rows. -/
def atN (n : Nat) : Nat → Int
  | 0 => -1
  | i + 1 => match Nat.beq (rowOfTab i).1 n with | true => Int.ofNat i | false => atN n i
theorem atN_some (n j : Nat) (hj : (rowOfTab j).1 = n) (hn : ∀ i, i < 113 → (rowOfTab i).1 = n → i = j) : ∀ k, j < k → k ≤ 113 → atN n k = Int.ofNat j
  | 0, h, _ => by omega
  | k + 1, h, hk => by
    unfold atN
    cases hb : Nat.beq (rowOfTab k).1 n with
    | true =>
      rw [beq_eq, decide_eq_true_iff] at hb
      rw [hn k (by omega) hb]
    | false =>
      rw [beq_eq, decide_eq_false_iff_not] at hb
      have : k ≠ j := fun e => hb (e ▸ hj)
      exact atN_some n j hj hn k (by omega) (by omega)
theorem atN_none (n : Nat) (hn : ∀ i, i < 113 → (rowOfTab i).1 ≠ n) : ∀ k, k ≤ 113 → atN n k = -1
  | 0, _ => rfl
  | k + 1, hk => by
    unfold atN
    have hb : Nat.beq (rowOfTab k).1 n = false := by rw [beq_eq, decide_eq_false_iff_not]; exact hn k (by omega)
    rw [hb]
    exact atN_none n hn k (by omega)
theorem atN_all (n : Nat) : atN n 113 = spotN n := by
  have inj : ∀ i j, i < 113 → j < 113 → (rowOfTab i).1 = (rowOfTab j).1 → i = j := by
    intro i j hi hj he
    rw [num_spot i hi, num_spot j hj] at he
    split at he <;> split at he <;> omega
  unfold spotN
  split
  · rename_i h
    have hr : (rowOfTab (n - 1)).1 = n := by rw [num_spot (n - 1) (by omega), if_pos (by omega)]; omega
    exact atN_some n (n - 1) hr (fun i hi e => inj i (n - 1) hi (by omega) (e.trans hr.symm)) 113 (by omega) (Nat.le_refl _)
  · split
    · rename_i h1 h
      have hr : (rowOfTab (n - 101 + 73)).1 = n := by rw [num_spot _ (by omega), if_neg (by omega)]; omega
      exact atN_some n (n - 101 + 73) hr (fun i hi e => inj i _ hi (by omega) (e.trans hr.symm)) 113 (by omega) (Nat.le_refl _)
    · rename_i h1 h2
      refine atN_none n (fun i hi e => ?_) 113 (Nat.le_refl _)
      rw [num_spot i hi] at e
      split at e <;> omega
theorem row_facts (i : Nat) (hi : i < 113) : ∃ a nm c d e f g, (rowOfTab i).1 = a ∧ rowAt i = [.int .u32 (.ofNat a), .str nm, .int .i64 (.ofNat c), .int .i64 (.ofNat d), .int .i64 (.ofNat e), .bool f, .bool g] ∧ spotN a = .ofNat i ∧ nmFrom nm tab 0 = .ofNat i ∧
    Nat.beq a 0 = false ∧ Nat.blt a 256 = true ∧ ((f = false ∧ g = false) ∨ (f = true ∧ g = false ∧ Nat.beq e 1 = true) ∨ (f = false ∧ g = true ∧ Nat.beq e 1 = true)) ∧ Nat.blt 2 e = false ∧ rightW nm 0 0 = true ∧ strOk nm ∧ (i = 0 ∨ Nat.blt (rowOfTab (i - 1)).1 a = true) := by
  have h := rows_good i hi
  have hk := names_ok i hi
  rw [rowAt_eq i hi]
  unfold rowGood at h
  rcases hr : rowOfTab i with ⟨a, nm, c, d, e, f, g⟩
  rw [hr] at h hk
  simp only [Bool.and_eq_true, beq_iff_eq, Bool.not_eq_true', Bool.or_eq_true] at h
  obtain ⟨⟨⟨⟨⟨⟨⟨⟨h1, h2⟩, h3⟩, h4⟩, h5⟩, h6⟩, h7⟩, h8⟩, h9⟩ := h
  refine ⟨a, nm, c, d, e, f, g, rfl, rfl, h1, h2, ?_, h4, ?_, ?_, h9, ⟨fun x hx => by simpa using List.all_eq_true.1 hk.1 x hx, hk.2⟩, ?_⟩
  · rw [blt_eq, decide_eq_true_iff] at h3
    rw [beq_eq, decide_eq_false_iff_not]; omega
  · cases f <;> cases g <;> simp_all
  · rw [ble_eq, decide_eq_true_iff] at h7
    rw [blt_eq, decide_eq_false_iff_not]; omega
  · rcases h8 with h8 | h8
    · left; rw [beq_eq, decide_eq_true_iff] at h8; exact h8
    · right; exact h8
theorem getN_of (n i : Nat) (h : spotN n = .ofNat i) : getN n = .tuple [.agg (rowAt i), .bool true] := by
  unfold getN
  rw [h, if_pos (by exact Int.natCast_nonneg i)]
  rfl
end Go.Ev

namespace Go.Ev
open Go.Proofs
set_option linter.unusedSimpArgs false
set_option linter.unusedVariables false
set_option maxHeartbeats 8000000
theorem fa39_0 (b g o : Nat) : fieldAddrOp Try.prog 39 (.ptr b g o) 0 = some (.ptr b g (o + 0)) := by kernel_rfl
theorem fa39_1 (b g o : Nat) : fieldAddrOp Try.prog 39 (.ptr b g o) 1 = some (.ptr b g (o + 1)) := by kernel_rfl
theorem fa39_2 (b g o : Nat) : fieldAddrOp Try.prog 39 (.ptr b g o) 2 = some (.ptr b g (o + 2)) := by kernel_rfl
theorem fa39_3 (b g o : Nat) : fieldAddrOp Try.prog 39 (.ptr b g o) 3 = some (.ptr b g (o + 3)) := by kernel_rfl
theorem fa39_4 (b g o : Nat) : fieldAddrOp Try.prog 39 (.ptr b g o) 4 = some (.ptr b g (o + 4)) := by kernel_rfl
theorem fa39_5 (b g o : Nat) : fieldAddrOp Try.prog 39 (.ptr b g o) 5 = some (.ptr b g (o + 5)) := by kernel_rfl
theorem fa39_6 (b g o : Nat) : fieldAddrOp Try.prog 39 (.ptr b g o) 6 = some (.ptr b g (o + 6)) := by kernel_rfl
theorem agg36 : isAggB Try.prog 36 = some false := by kernel_rfl
theorem agg4 : isAggB Try.prog 4 = some false := by kernel_rfl
theorem agg3 : isAggB Try.prog 3 = some false := by kernel_rfl
theorem ia43 (b g i n : Nat) (hi : i < n) (c : Option Nat) : indexAddrOp Try.prog 43 (.slice b g 0 n c 7) (.int .i64 (.ofNat i)) = some (.ptr b g (i * 7)) := by
  have hu : Try.prog.underlying 43 = some (.slice 39) := by kernel_rfl
  have h1 : Nat.blt i n = true := by rw [blt_eq]; simp [hi]
  simp only [indexAddrOp, asNat?, hu, Option.bind_some, sz39, h1, Nat.beq, Bool.and_self, Nat.zero_add]
/-- What stands at a place of the row of all rows. -/
theorem ld_tab {h : Heap} (hh : h.get 0 = some (.row tabCells 112 7)) (i : Nat) (hi : i < 113) : loadAt Try.prog 39 (.ptr 0 112 (i * 7)) h = some (.agg (rowAt i)) := by
  have e2 : Nat.ble (i * 7 + 7) tabCells.length = true := by rw [ble_eq, tab_len]; simp; omega
  simp only [loadAt, agg39, sz39, Option.bind_some, readN, hh, isHi, Nat.beq, e2, Bool.and_self, Option.map_some, rowAt]
theorem ld_num {h : Heap} (hh : h.get 0 = some (.row tabCells 112 7)) (i : Nat) (hi : i < 113) : loadAt Try.prog 36 (.ptr 0 112 (i * 7 + 0)) h = some (.int .u32 (.ofNat (rowOfTab i).1)) := by
  have e2 : Nat.ble (i * 7 + 0 + 1) tabCells.length = true := by rw [ble_eq, tab_len]; simp; omega
  have hr : ((tabCells.drop (i * 7)).take 1) = [.int .u32 (.ofNat (rowOfTab i).1)] := by
    have h1 : (rowAt i).take 1 = [.int .u32 (.ofNat (rowOfTab i).1)] := by rw [rowAt_eq i hi]; rfl
    rw [← h1, rowAt, List.take_take]
    rfl
  simp only [loadAt, agg36, readN, hh, isHi, Nat.beq, e2, Bool.and_self, Nat.add_zero, hr, Option.bind_some, List.head?]
noncomputable def sameRow (i : Nat) : Bool := eqMay Try.prog 39 (.agg (rowAt i)) && (match eqIn Try.prog 20 39 (.agg (rowAt i)) (.agg (rowAt i)) with | some true => true | _ => false)
theorem same_rows : ∀ i, i < 113 → sameRow i = true := by decide +kernel
theorem eq39 (i : Nat) (hi : i < 113) : eqMay Try.prog 39 (.agg (rowAt i)) = true ∧ eqIn Try.prog 20 39 (.agg (rowAt i)) (.agg (rowAt i)) = some true := by
  have h := same_rows i hi
  unfold sameRow at h
  rw [Bool.and_eq_true] at h
  refine ⟨h.1, ?_⟩
  have h := h.2
  split at h
  · assumption
  · cases h
end Go.Ev
