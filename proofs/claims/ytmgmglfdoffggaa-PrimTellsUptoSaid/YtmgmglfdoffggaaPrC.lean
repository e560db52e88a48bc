/-
  What the functions of the package prim that tell where instructions stand compute, by the evaluator, and the plain laws of that; no conditions.
-/
import Derived.Test.YtmgmglfdoffggaaPrA
import Derived.Test.YtmgmglfdoffggaaEvC
namespace Go.Ev
open Go.Proofs
set_option linter.unusedSimpArgs false
set_option linter.unusedVariables false
set_option maxHeartbeats 2000000
/-! prim.long -/
def u32s (cs : List Nat) : List LV := cs.map fun x => .int .u32 (.ofNat x)
def natOf : LV → Option Nat
  | .int .u32 (.ofNat x) => some x
  | _ => none
def codeOf : LV → Option (List Nat)
  | .nils => some []
  | .vs cells n => if cells.length = n ∧ n < 2 ^ 40 then cells.mapM natOf else none
  | _ => none
theorem mapM_nat : ∀ (cells : List LV) (cs : List Nat), cells.mapM natOf = some cs → cells = u32s cs
  | [], cs, h => by simp at h; subst h; rfl
  | c :: cells, cs, h => by
    simp only [List.mapM_cons, Option.pure_def, Option.bind_eq_bind] at h
    obtain ⟨x, h1, h⟩ := bnd h
    obtain ⟨xs, h2, h⟩ := bnd h
    cases h
    have hc : c = .int .u32 (.ofNat x) := by
      unfold natOf at h1
      split at h1
      · cases h1; rfl
      · cases h1
    rw [hc, mapM_nat cells xs h2]
    rfl
theorem codeOf_shape {cd : LV} {cs : List Nat} (h : codeOf cd = some cs) : (cd = .nils ∧ cs = []) ∨ cd = .vs (u32s cs) cs.length := by
  unfold codeOf at h
  split at h
  · cases h; exact .inl ⟨rfl, rfl⟩
  · rename_i cells n
    split at h
    · rename_i hn
      have := mapM_nat cells cs h
      right
      rw [← hn.1, this]
      simp [u32s]
    · cases h
  · cases h
theorem codeOf_len {cd : LV} {cs : List Nat} (h : codeOf cd = some cs) : cs.length < 2 ^ 40 := by
  unfold codeOf at h
  split at h
  · cases h; decide
  · rename_i cells n
    split at h
    · rename_i hn
      have := mapM_nat cells cs h
      rw [← hn.1, this] at hn
      simpa [u32s] using hn.2
    · cases h
  · cases h
theorem under22 : Try.prog.underlying 22 = some (.slice 36) := by kernel_rfl
theorem sz36 : szOf Try.prog 36 = some 1 := by kernel_rfl
theorem code_len {cd : LV} {cs : List Nat} (h : codeOf cd = some cs) (hp : Heap) : lenE Try.prog 22 cd hp = some (.int .i64 (.ofNat cs.length)) := by
  rcases codeOf_shape h with ⟨rfl, rfl⟩ | rfl
  · simp only [lenE, under22, lenOf?, Option.map_some]; rfl
  · simp only [lenE, under22, lenOf?, Option.map_some]
theorem code_at {cd : LV} {cs : List Nat} (h : codeOf cd = some cs) (i : Nat) (hi : i < cs.length) :
    ∃ p, indexAddrOp Try.prog 22 cd (.int .i64 (.ofNat i)) = some p ∧ ∀ hp, loadAt Try.prog 36 p hp = some (.int .u32 (.ofNat cs[i])) := by
  rcases codeOf_shape h with ⟨rfl, rfl⟩ | rfl
  · simp at hi
  · refine ⟨.vptr ((u32s cs).drop (i * 1)), ?_, fun hp => ?_⟩
    · have h1 : Nat.blt i cs.length = true := by rw [blt_eq]; simp [hi]
      have h2 : Nat.ble (i * 1) (u32s cs).length = true := by rw [ble_eq]; simp [u32s]; omega
      simp only [indexAddrOp, asNat?, Option.bind_some, under22, sz36, h1, h2, Bool.and_self]
    · simp only [loadAt, agg36, Nat.mul_one]
      rw [List.head?_drop]
      simp [u32s, List.getElem?_eq_getElem hi]
/-- How many cells the first instruction of a code has. -/
def insN : List Nat → Nat
  | [] => 0
  | x :: r => if 256 ≤ x then 1 else
    match spotN x with
    | .negSucc _ => 0
    | .ofNat j =>
      if r.length < (rowOfTab j).2.2.2.2.1 then 0
      else match (rowOfTab j).2.2.2.2.2.1 with
        | false => 1 + (rowOfTab j).2.2.2.2.1
        | true => match r with
          | [] => 0
          | y :: _ => if 1000 < y then 0 else if r.length + 1 < 2 + (y + 3) / 4 then 0 else 2 + (y + 3) / 4
def longN (cs : List Nat) : Int → Nat
  | .negSucc _ => 0
  | .ofNat i => insN (cs.drop i)
def fLong : Pure
  | [cd, .int .i64 at_] => (codeOf cd).map fun cs => (none, fun _ => .int .i64 (.ofNat (longN cs at_)))
  | _ => none
theorem row_data (i : Nat) (hi : i < 113) : ∃ a nm c d e f g, rowOfTab i = (a, nm, c, d, e, f, g) ∧ rowAt i = [.int .u32 (.ofNat a), .str nm, .int .i64 (.ofNat c), .int .i64 (.ofNat d), .int .i64 (.ofNat e), .bool f, .bool g] ∧
    e ≤ 2 ∧ (f = true → e = 1 ∧ g = false) ∧ (g = true → e = 1) := by
  have h := rows_good i hi
  rw [rowAt_eq i hi]
  unfold rowGood at h
  rcases hr : rowOfTab i with ⟨a, nm, c, d, e, f, g⟩
  rw [hr] at h
  simp only [Bool.and_eq_true, beq_iff_eq, Bool.not_eq_true', Bool.or_eq_true] at h
  obtain ⟨⟨⟨⟨⟨⟨⟨⟨h1, h2⟩, h3⟩, h4⟩, h5⟩, h6⟩, h7⟩, h8⟩, h9⟩ := h
  refine ⟨a, nm, c, d, e, f, g, rfl, rfl, ?_, ?_, ?_⟩
  · rw [ble_eq, decide_eq_true_iff] at h7; exact h7
  · rintro rfl
    simp at h6 h5
    exact ⟨h6, h5⟩
  · rintro rfl
    simp at h6
    exact h6
theorem call16_13' (run : Run) (h : Heap) (n : Nat) : callE Try.prog ov3 run 13 [.int .u32 (.ofNat n)] h = some (getN n, h) := rfl
theorem long_body (cd : LV) (cs : List Nat) (hcd : codeOf cd = some cs) (at_ : Int) : ∃ r h1, Evc Try.prog ov16 24 [cd, .int .i64 at_] Heap.empty (r, h1) ∧ r = .int .i64 (.ofNat (longN cs at_)) := by
  have hL := codeOf_len hcd
  have hlen := code_len hcd
  cases at_ with
  | negSucc k =>
    have w : ilt (.negSucc k) 0 = true := rfl
    refine Evc.of rfl Try.func24 rfl rfl ?_
    have chk_ : True := by simp only [w, hlen]
    clear chk_
    repeat (first | refine EvP.seq ?_ | refine EvP.region ?_ | refine OpsP.nil ?_ | refine GuardP.no ?_ | refine DGuardP.no ?_ | refine DrP.nil ?_ | refine CondP.t ?_ | refine CondP.f ?_ | refine EvP.ret ?_ | refine EvP.skip ?_ | refine EvP.exit ?_ | refine EvP.block ?_ | refine EvP.scope ?_  | ((first | refine OpsP.put (v := ?_) (h1 := ?_) ?hd ?he ?_ | refine OpsP.eff (v := ?_) (h1 := ?_) ?he ?_ | refine GuardP.yes (v := ?_) (h1 := ?_) ?he ?_  | (refine DrP.put (d := ?_) (op := ?_) (t := ?_) (p := ?_) (a := ?_) (v := ?_) (h1 := ?_) ?ho ?hd ?he ?_; (case ho => rfl)) | (refine DrP.eff (op := ?_) (t := ?_) (p := ?_) (a := ?_) (v := ?_) (h1 := ?_) ?ho ?he ?_; (case ho => rfl)) | refine DGuardP.yes (v := ?_) (h1 := ?_) ?he ?_); (try case hd => rfl); (case he => intro run; ((try simp only [evOp, evA, val, vals, oval, parts, get_set, get_nil, ofArgs, ofValue, binOpE, arith, convertE, unOpE, builtinE, callV, List.nil_append, List.append_nil, Option.bind_some, Option.map_some, Nat.reduceEqDiff, reduceIte, Bool.not_true, Bool.not_false, List.getElem?_cons_zero, List.getElem?_cons_succ, List.getElem?_toArray, Array.toList, List.mapM_cons, List.mapM_nil, Option.pure_def, Option.bind_eq_bind, w, hlen]) <;> exact rfl)))  | ((first | refine OpsP.guard (x := ?_) (b := ?_) ?hj ?hx ?hd ?_ | (refine DrP.guard (d := ?_) (op := ?_) (t := ?_) (p := ?_) (a := ?_) (j := ?_) (w := ?_) (x := ?_) (b := ?_) ?ho ?hj ?hx ?hd ?_; (case ho => rfl)) | refine EvP.condB (c := ?_) ?hx ?_); (try case hj => rfl); (case hx => ((try simp only [val, get_set, get_nil, ofArgs, ofValue, Nat.reduceEqDiff, reduceIte, Option.map_some, w, hlen]) <;> exact rfl)); (try case hd => rfl)))
    refine ⟨_, rfl, ?_⟩
    simp only [oneOf, get_set, Nat.reduceEqDiff, reduceIte]
    rfl
  | ofNat i =>
    have w : ilt (.ofNat i) 0 = false := rfl
    by_cases hi : i < cs.length
    · have f1 : Nat.blt i cs.length = true := by rw [blt_eq]; simp [hi]
      obtain ⟨p, hp, hl⟩ := code_at hcd i hi
      have hd : cs.drop i = cs[i] :: cs.drop (i + 1) := List.drop_eq_getElem_cons hi
      have hlr : (cs.drop (i + 1)).length = cs.length - i - 1 := by simp; omega
      generalize cs[i] = x at *
      generalize hr : cs.drop (i + 1) = r at *
      by_cases hx : 256 ≤ x
      · have f2 : Nat.blt x 256 = false := by rw [blt_eq]; simp; omega
        refine Evc.of rfl Try.func24 rfl rfl ?_
        have chk_ : True := by simp only [w, hlen, f1, f2, hp, hl]
        clear chk_
        repeat (first | refine EvP.seq ?_ | refine EvP.region ?_ | refine OpsP.nil ?_ | refine GuardP.no ?_ | refine DGuardP.no ?_ | refine DrP.nil ?_ | refine CondP.t ?_ | refine CondP.f ?_ | refine EvP.ret ?_ | refine EvP.skip ?_ | refine EvP.exit ?_ | refine EvP.block ?_ | refine EvP.scope ?_  | ((first | refine OpsP.put (v := ?_) (h1 := ?_) ?hd ?he ?_ | refine OpsP.eff (v := ?_) (h1 := ?_) ?he ?_ | refine GuardP.yes (v := ?_) (h1 := ?_) ?he ?_  | (refine DrP.put (d := ?_) (op := ?_) (t := ?_) (p := ?_) (a := ?_) (v := ?_) (h1 := ?_) ?ho ?hd ?he ?_; (case ho => rfl)) | (refine DrP.eff (op := ?_) (t := ?_) (p := ?_) (a := ?_) (v := ?_) (h1 := ?_) ?ho ?he ?_; (case ho => rfl)) | refine DGuardP.yes (v := ?_) (h1 := ?_) ?he ?_); (try case hd => rfl); (case he => intro run; ((try simp only [evOp, evA, val, vals, oval, parts, get_set, get_nil, ofArgs, ofValue, binOpE, arith, ilt, convertE, unOpE, builtinE, callV, List.nil_append, List.append_nil, Option.bind_some, Option.map_some, Nat.reduceEqDiff, reduceIte, Bool.not_true, Bool.not_false, List.getElem?_cons_zero, List.getElem?_cons_succ, List.getElem?_toArray, Array.toList, List.mapM_cons, List.mapM_nil, Option.pure_def, Option.bind_eq_bind, w, hlen, f1, f2, hp, hl]) <;> exact rfl)))  | ((first | refine OpsP.guard (x := ?_) (b := ?_) ?hj ?hx ?hd ?_ | (refine DrP.guard (d := ?_) (op := ?_) (t := ?_) (p := ?_) (a := ?_) (j := ?_) (w := ?_) (x := ?_) (b := ?_) ?ho ?hj ?hx ?hd ?_; (case ho => rfl)) | refine EvP.condB (c := ?_) ?hx ?_); (try case hj => rfl); (case hx => ((try simp only [val, get_set, get_nil, ofArgs, ofValue, Nat.reduceEqDiff, reduceIte, Option.map_some, w, hlen, f1, f2, hp, hl]) <;> exact rfl)); (try case hd => rfl)))
        refine ⟨_, rfl, ?_⟩
        simp only [oneOf, get_set, Nat.reduceEqDiff, reduceIte, longN, hd, insN, if_pos hx]
        rfl
      · have f2 : Nat.blt x 256 = true := by rw [blt_eq]; simp; omega
        rcases spotN_lt x with hs | ⟨j, hj, hs⟩
        · have hg : getN x = .tuple [.agg noRow, .bool false] := by unfold getN; rw [hs]; rfl
          have st : storeAt Try.prog 39 (.ptr 0 0 0) (.agg noRow) (Heap.empty.new (.row noRow 0 0)).2 = some ((Heap.empty.new (.row noRow 0 0)).2.set 0 (.row noRow 0 0)) := store_fresh (cs := noRow) (by simp only [hget_new, hnext_empty, reduceIte]) rfl rfl rfl
          have l4 : loadAt Try.prog 3 (.ptr 0 0 (0 + 4)) ((Heap.empty.new (.row noRow 0 0)).2.set 0 (.row noRow 0 0)) = some (.int .i64 0) := by simp only [loadAt, agg3, readN, hget_set, reduceIte]; rfl
          refine Evc.of rfl Try.func24 rfl rfl ?_
          have chk_ : True := by simp only [w, hlen, f1, f2, hp, hl, call16_13, hg, zero39, LV.cells, putNew_eq, hnext_empty, st, l4, fa39_4]
          clear chk_
          repeat (first | refine EvP.seq ?_ | refine EvP.region ?_ | refine OpsP.nil ?_ | refine GuardP.no ?_ | refine DGuardP.no ?_ | refine DrP.nil ?_ | refine CondP.t ?_ | refine CondP.f ?_ | refine EvP.ret ?_ | refine EvP.skip ?_ | refine EvP.exit ?_ | refine EvP.block ?_ | refine EvP.scope ?_  | ((first | refine OpsP.put (v := ?_) (h1 := ?_) ?hd ?he ?_ | refine OpsP.eff (v := ?_) (h1 := ?_) ?he ?_ | refine GuardP.yes (v := ?_) (h1 := ?_) ?he ?_  | (refine DrP.put (d := ?_) (op := ?_) (t := ?_) (p := ?_) (a := ?_) (v := ?_) (h1 := ?_) ?ho ?hd ?he ?_; (case ho => rfl)) | (refine DrP.eff (op := ?_) (t := ?_) (p := ?_) (a := ?_) (v := ?_) (h1 := ?_) ?ho ?he ?_; (case ho => rfl)) | refine DGuardP.yes (v := ?_) (h1 := ?_) ?he ?_); (try case hd => rfl); (case he => intro run; ((try simp only [evOp, evA, val, vals, oval, parts, get_set, get_nil, ofArgs, ofValue, binOpE, arith, ilt, convertE, unOpE, builtinE, callV, List.nil_append, List.append_nil, Option.bind_some, Option.map_some, Nat.reduceEqDiff, reduceIte, Bool.not_true, Bool.not_false, List.getElem?_cons_zero, List.getElem?_cons_succ, List.getElem?_toArray, Array.toList, List.mapM_cons, List.mapM_nil, Option.pure_def, Option.bind_eq_bind, w, hlen, f1, f2, hp, hl, call16_13, hg, zero39, LV.cells, putNew_eq, hnext_empty, st, l4, fa39_4]) <;> exact rfl)))  | ((first | refine OpsP.guard (x := ?_) (b := ?_) ?hj ?hx ?hd ?_ | (refine DrP.guard (d := ?_) (op := ?_) (t := ?_) (p := ?_) (a := ?_) (j := ?_) (w := ?_) (x := ?_) (b := ?_) ?ho ?hj ?hx ?hd ?_; (case ho => rfl)) | refine EvP.condB (c := ?_) ?hx ?_); (try case hj => rfl); (case hx => ((try simp only [val, get_set, get_nil, ofArgs, ofValue, Nat.reduceEqDiff, reduceIte, Option.map_some, w, hlen, f1, f2, hp, hl, call16_13, hg, zero39, LV.cells, putNew_eq, hnext_empty, st, l4, fa39_4]) <;> exact rfl)); (try case hd => rfl)))
          refine ⟨_, rfl, ?_⟩
          simp only [oneOf, get_set, Nat.reduceEqDiff, reduceIte, longN, hd, insN, if_neg hx, hs]
          rfl
        · obtain ⟨a, nm, c, d, e, f, g, hrow, hcells, he, hf, hg'⟩ := row_data j hj
          have hg : getN x = .tuple [.agg [.int .u32 (.ofNat a), .str nm, .int .i64 (.ofNat c), .int .i64 (.ofNat d), .int .i64 (.ofNat e), .bool f, .bool g], .bool true] := by rw [getN_of x j hs, hcells]
          have st : storeAt Try.prog 39 (.ptr 0 0 0) (.agg [.int .u32 (.ofNat a), .str nm, .int .i64 (.ofNat c), .int .i64 (.ofNat d), .int .i64 (.ofNat e), .bool f, .bool g]) (Heap.empty.new (.row noRow 0 0)).2 = some ((Heap.empty.new (.row noRow 0 0)).2.set 0 (.row [.int .u32 (.ofNat a), .str nm, .int .i64 (.ofNat c), .int .i64 (.ofNat d), .int .i64 (.ofNat e), .bool f, .bool g] 0 0)) := store_fresh (cs := noRow) (by simp only [hget_new, hnext_empty, reduceIte]) rfl rfl rfl
          have l4 : loadAt Try.prog 3 (.ptr 0 0 (0 + 4)) ((Heap.empty.new (.row noRow 0 0)).2.set 0 (.row [.int .u32 (.ofNat a), .str nm, .int .i64 (.ofNat c), .int .i64 (.ofNat d), .int .i64 (.ofNat e), .bool f, .bool g] 0 0)) = some (.int .i64 (.ofNat e)) := by simp only [loadAt, agg3, readN, hget_set, reduceIte]; rfl
          have l5 : loadAt Try.prog 4 (.ptr 0 0 (0 + 5)) ((Heap.empty.new (.row noRow 0 0)).2.set 0 (.row [.int .u32 (.ofNat a), .str nm, .int .i64 (.ofNat c), .int .i64 (.ofNat d), .int .i64 (.ofNat e), .bool f, .bool g] 0 0)) = some (.bool f) := by simp only [loadAt, agg4, readN, hget_set, reduceIte]; rfl
          have w1 : wrap .i64 (1 + Int.ofNat e) = .ofNat (e + 1) := by rw [show (1 : Int) + Int.ofNat e = Int.ofNat (e + 1) by simp; omega, wrap_nat .i64 (e + 1) (by simp only [half]; omega)]
          have w2 : wrap .i64 (Int.ofNat cs.length - Int.ofNat i) = .ofNat (cs.length - i) := by rw [show Int.ofNat cs.length - Int.ofNat i = Int.ofNat (cs.length - i) from nat_sub (b := i) (by omega), wrap_nat .i64 _ (by simp only [half]; omega)]
          by_cases hn : r.length < e
          · have f3 : Nat.blt (cs.length - i) (e + 1) = true := by rw [blt_eq]; simp; omega
            refine Evc.of rfl Try.func24 rfl rfl ?_
            have chk_ : True := by simp only [w, hlen, f1, f2, hp, hl, call16_13, hg, zero39, LV.cells, putNew_eq, hnext_empty, st, l4, fa39_4, w1, w2, f3]
            clear chk_
            repeat (first | refine EvP.seq ?_ | refine EvP.region ?_ | refine OpsP.nil ?_ | refine GuardP.no ?_ | refine DGuardP.no ?_ | refine DrP.nil ?_ | refine CondP.t ?_ | refine CondP.f ?_ | refine EvP.ret ?_ | refine EvP.skip ?_ | refine EvP.exit ?_ | refine EvP.block ?_ | refine EvP.scope ?_  | ((first | refine OpsP.put (v := ?_) (h1 := ?_) ?hd ?he ?_ | refine OpsP.eff (v := ?_) (h1 := ?_) ?he ?_ | refine GuardP.yes (v := ?_) (h1 := ?_) ?he ?_  | (refine DrP.put (d := ?_) (op := ?_) (t := ?_) (p := ?_) (a := ?_) (v := ?_) (h1 := ?_) ?ho ?hd ?he ?_; (case ho => rfl)) | (refine DrP.eff (op := ?_) (t := ?_) (p := ?_) (a := ?_) (v := ?_) (h1 := ?_) ?ho ?he ?_; (case ho => rfl)) | refine DGuardP.yes (v := ?_) (h1 := ?_) ?he ?_); (try case hd => rfl); (case he => intro run; ((try simp only [evOp, evA, val, vals, oval, parts, get_set, get_nil, ofArgs, ofValue, binOpE, arith, ilt, convertE, unOpE, builtinE, callV, List.nil_append, List.append_nil, Option.bind_some, Option.map_some, Nat.reduceEqDiff, reduceIte, Bool.not_true, Bool.not_false, List.getElem?_cons_zero, List.getElem?_cons_succ, List.getElem?_toArray, Array.toList, List.mapM_cons, List.mapM_nil, Option.pure_def, Option.bind_eq_bind, w, hlen, f1, f2, hp, hl, call16_13, hg, zero39, LV.cells, putNew_eq, hnext_empty, st, l4, fa39_4, w1, w2, f3]) <;> exact rfl)))  | ((first | refine OpsP.guard (x := ?_) (b := ?_) ?hj ?hx ?hd ?_ | (refine DrP.guard (d := ?_) (op := ?_) (t := ?_) (p := ?_) (a := ?_) (j := ?_) (w := ?_) (x := ?_) (b := ?_) ?ho ?hj ?hx ?hd ?_; (case ho => rfl)) | refine EvP.condB (c := ?_) ?hx ?_); (try case hj => rfl); (case hx => ((try simp only [val, get_set, get_nil, ofArgs, ofValue, Nat.reduceEqDiff, reduceIte, Option.map_some, w, hlen, f1, f2, hp, hl, call16_13, hg, zero39, LV.cells, putNew_eq, hnext_empty, st, l4, fa39_4, w1, w2, f3]) <;> exact rfl)); (try case hd => rfl)))
            refine ⟨_, rfl, ?_⟩
            simp only [oneOf, get_set, Nat.reduceEqDiff, reduceIte, longN, hd, insN, if_neg hx, hs, hrow, if_pos hn]
            rfl
          · have f3 : Nat.blt (cs.length - i) (e + 1) = false := by rw [blt_eq]; simp; omega
            cases f with
            | false =>
              refine Evc.of rfl Try.func24 rfl rfl ?_
              have chk_ : True := by simp only [w, hlen, f1, f2, hp, hl, call16_13, hg, zero39, LV.cells, putNew_eq, hnext_empty, st, l4, l5, fa39_4, fa39_5, w1, w2, f3]
              clear chk_
              repeat (first | refine EvP.seq ?_ | refine EvP.region ?_ | refine OpsP.nil ?_ | refine GuardP.no ?_ | refine DGuardP.no ?_ | refine DrP.nil ?_ | refine CondP.t ?_ | refine CondP.f ?_ | refine EvP.ret ?_ | refine EvP.skip ?_ | refine EvP.exit ?_ | refine EvP.block ?_ | refine EvP.scope ?_  | ((first | refine OpsP.put (v := ?_) (h1 := ?_) ?hd ?he ?_ | refine OpsP.eff (v := ?_) (h1 := ?_) ?he ?_ | refine GuardP.yes (v := ?_) (h1 := ?_) ?he ?_  | (refine DrP.put (d := ?_) (op := ?_) (t := ?_) (p := ?_) (a := ?_) (v := ?_) (h1 := ?_) ?ho ?hd ?he ?_; (case ho => rfl)) | (refine DrP.eff (op := ?_) (t := ?_) (p := ?_) (a := ?_) (v := ?_) (h1 := ?_) ?ho ?he ?_; (case ho => rfl)) | refine DGuardP.yes (v := ?_) (h1 := ?_) ?he ?_); (try case hd => rfl); (case he => intro run; ((try simp only [evOp, evA, val, vals, oval, parts, get_set, get_nil, ofArgs, ofValue, binOpE, arith, ilt, convertE, unOpE, builtinE, callV, List.nil_append, List.append_nil, Option.bind_some, Option.map_some, Nat.reduceEqDiff, reduceIte, Bool.not_true, Bool.not_false, List.getElem?_cons_zero, List.getElem?_cons_succ, List.getElem?_toArray, Array.toList, List.mapM_cons, List.mapM_nil, Option.pure_def, Option.bind_eq_bind, w, hlen, f1, f2, hp, hl, call16_13, hg, zero39, LV.cells, putNew_eq, hnext_empty, st, l4, l5, fa39_4, fa39_5, w1, w2, f3]) <;> exact rfl)))  | ((first | refine OpsP.guard (x := ?_) (b := ?_) ?hj ?hx ?hd ?_ | (refine DrP.guard (d := ?_) (op := ?_) (t := ?_) (p := ?_) (a := ?_) (j := ?_) (w := ?_) (x := ?_) (b := ?_) ?ho ?hj ?hx ?hd ?_; (case ho => rfl)) | refine EvP.condB (c := ?_) ?hx ?_); (try case hj => rfl); (case hx => ((try simp only [val, get_set, get_nil, ofArgs, ofValue, Nat.reduceEqDiff, reduceIte, Option.map_some, w, hlen, f1, f2, hp, hl, call16_13, hg, zero39, LV.cells, putNew_eq, hnext_empty, st, l4, l5, fa39_4, fa39_5, w1, w2, f3]) <;> exact rfl)); (try case hd => rfl)))
              refine ⟨_, rfl, ?_⟩
              simp only [oneOf, get_set, Nat.reduceEqDiff, reduceIte, longN, hd, insN, if_neg hx, hs, hrow, if_neg hn]
              rw [Nat.add_comm]
            | true =>
              obtain ⟨rfl, -⟩ := hf rfl
              have hi1 : i + 1 < cs.length := by omega
              obtain ⟨p', hp', hl'⟩ := code_at hcd (i + 1) hi1
              have hd' : r = cs[i + 1] :: cs.drop (i + 1 + 1) := by rw [← hr]; exact List.drop_eq_getElem_cons hi1
              generalize cs[i + 1] = y at *
              have w3 : wrap .i64 (Int.ofNat i + 1) = .ofNat (i + 1) := by rw [show Int.ofNat i + 1 = Int.ofNat (i + 1) from rfl, wrap_nat .i64 (i + 1) (by simp only [half]; omega)]
              by_cases hy : 1000 < y
              · have f4 : Nat.blt 1000 y = true := by rw [blt_eq]; simp [hy]
                refine Evc.of rfl Try.func24 rfl rfl ?_
                have chk_ : True := by simp only [w, hlen, f1, f2, hp, hl, call16_13, hg, zero39, LV.cells, putNew_eq, hnext_empty, st, l4, l5, fa39_4, fa39_5, w1, w2, f3, w3, hp', hl', f4]
                clear chk_
                repeat (first | refine EvP.seq ?_ | refine EvP.region ?_ | refine OpsP.nil ?_ | refine GuardP.no ?_ | refine DGuardP.no ?_ | refine DrP.nil ?_ | refine CondP.t ?_ | refine CondP.f ?_ | refine EvP.ret ?_ | refine EvP.skip ?_ | refine EvP.exit ?_ | refine EvP.block ?_ | refine EvP.scope ?_  | ((first | refine OpsP.put (v := ?_) (h1 := ?_) ?hd ?he ?_ | refine OpsP.eff (v := ?_) (h1 := ?_) ?he ?_ | refine GuardP.yes (v := ?_) (h1 := ?_) ?he ?_  | (refine DrP.put (d := ?_) (op := ?_) (t := ?_) (p := ?_) (a := ?_) (v := ?_) (h1 := ?_) ?ho ?hd ?he ?_; (case ho => rfl)) | (refine DrP.eff (op := ?_) (t := ?_) (p := ?_) (a := ?_) (v := ?_) (h1 := ?_) ?ho ?he ?_; (case ho => rfl)) | refine DGuardP.yes (v := ?_) (h1 := ?_) ?he ?_); (try case hd => rfl); (case he => intro run; ((try simp only [evOp, evA, val, vals, oval, parts, get_set, get_nil, ofArgs, ofValue, binOpE, arith, ilt, convertE, unOpE, builtinE, callV, List.nil_append, List.append_nil, Option.bind_some, Option.map_some, Nat.reduceEqDiff, reduceIte, Bool.not_true, Bool.not_false, List.getElem?_cons_zero, List.getElem?_cons_succ, List.getElem?_toArray, Array.toList, List.mapM_cons, List.mapM_nil, Option.pure_def, Option.bind_eq_bind, w, hlen, f1, f2, hp, hl, call16_13, hg, zero39, LV.cells, putNew_eq, hnext_empty, st, l4, l5, fa39_4, fa39_5, w1, w2, f3, w3, hp', hl', f4]) <;> exact rfl)))  | ((first | refine OpsP.guard (x := ?_) (b := ?_) ?hj ?hx ?hd ?_ | (refine DrP.guard (d := ?_) (op := ?_) (t := ?_) (p := ?_) (a := ?_) (j := ?_) (w := ?_) (x := ?_) (b := ?_) ?ho ?hj ?hx ?hd ?_; (case ho => rfl)) | refine EvP.condB (c := ?_) ?hx ?_); (try case hj => rfl); (case hx => ((try simp only [val, get_set, get_nil, ofArgs, ofValue, Nat.reduceEqDiff, reduceIte, Option.map_some, w, hlen, f1, f2, hp, hl, call16_13, hg, zero39, LV.cells, putNew_eq, hnext_empty, st, l4, l5, fa39_4, fa39_5, w1, w2, f3, w3, hp', hl', f4]) <;> exact rfl)); (try case hd => rfl)))
                refine ⟨_, rfl, ?_⟩
                simp only [oneOf, get_set, Nat.reduceEqDiff, reduceIte, longN, hd, insN, if_neg hx, hs, hrow, if_neg hn]
                rw [hd']
                simp only [if_pos hy]
                rfl
              · have f4 : Nat.blt 1000 y = false := by rw [blt_eq]; simp; omega
                have w4 : wrap .i64 (Int.ofNat y) = .ofNat y := wrap_nat .i64 y (by simp only [half]; omega)
                have w5 : wrap .i64 (Int.ofNat y + 4) = .ofNat (y + 4) := by rw [show Int.ofNat y + 4 = Int.ofNat (y + 4) from rfl, wrap_nat .i64 (y + 4) (by simp only [half]; omega)]
                have w6 : wrap .i64 (Int.ofNat (y + 4) - 1) = .ofNat (y + 3) := by rw [show Int.ofNat (y + 4) - 1 = Int.ofNat (y + 3) from nat_sub (b := 1) (by omega), wrap_nat .i64 (y + 3) (by simp only [half]; omega)]
                have w7 : wrap .i64 ((Int.ofNat (y + 3)).tdiv 4) = .ofNat ((y + 3) / 4) := by rw [show (Int.ofNat (y + 3)).tdiv 4 = Int.ofNat ((y + 3) / 4) from rfl, wrap_nat .i64 _ (by simp only [half]; omega)]
                have w8 : wrap .i64 (Int.ofNat (1 + 1) + Int.ofNat ((y + 3) / 4)) = .ofNat (2 + (y + 3) / 4) := by rw [show Int.ofNat (1 + 1) + Int.ofNat ((y + 3) / 4) = Int.ofNat (2 + (y + 3) / 4) from rfl, wrap_nat .i64 _ (by simp only [half]; omega)]
                have q4 : ieq 4 0 = false := rfl
                by_cases hz : r.length + 1 < 2 + (y + 3) / 4
                · have f5 : Nat.blt (cs.length - i) (2 + (y + 3) / 4) = true := by rw [blt_eq]; simp; omega
                  refine Evc.of rfl Try.func24 rfl rfl ?_
                  have chk_ : True := by simp only [w, hlen, f1, f2, hp, hl, call16_13, hg, zero39, LV.cells, putNew_eq, hnext_empty, st, l4, l5, fa39_4, fa39_5, w1, w2, f3, w3, hp', hl', f4, w4, w5, w6, w7, w8, q4, f5]
                  clear chk_
                  repeat (first | refine EvP.seq ?_ | refine EvP.region ?_ | refine OpsP.nil ?_ | refine GuardP.no ?_ | refine DGuardP.no ?_ | refine DrP.nil ?_ | refine CondP.t ?_ | refine CondP.f ?_ | refine EvP.ret ?_ | refine EvP.skip ?_ | refine EvP.exit ?_ | refine EvP.block ?_ | refine EvP.scope ?_  | ((first | refine OpsP.put (v := ?_) (h1 := ?_) ?hd ?he ?_ | refine OpsP.eff (v := ?_) (h1 := ?_) ?he ?_ | refine GuardP.yes (v := ?_) (h1 := ?_) ?he ?_  | (refine DrP.put (d := ?_) (op := ?_) (t := ?_) (p := ?_) (a := ?_) (v := ?_) (h1 := ?_) ?ho ?hd ?he ?_; (case ho => rfl)) | (refine DrP.eff (op := ?_) (t := ?_) (p := ?_) (a := ?_) (v := ?_) (h1 := ?_) ?ho ?he ?_; (case ho => rfl)) | refine DGuardP.yes (v := ?_) (h1 := ?_) ?he ?_); (try case hd => rfl); (case he => intro run; ((try simp only [evOp, evA, val, vals, oval, parts, get_set, get_nil, ofArgs, ofValue, binOpE, arith, ilt, convertE, unOpE, builtinE, callV, List.nil_append, List.append_nil, Option.bind_some, Option.map_some, Nat.reduceEqDiff, reduceIte, Bool.not_true, Bool.not_false, List.getElem?_cons_zero, List.getElem?_cons_succ, List.getElem?_toArray, Array.toList, List.mapM_cons, List.mapM_nil, Option.pure_def, Option.bind_eq_bind, w, hlen, f1, f2, hp, hl, call16_13, hg, zero39, LV.cells, putNew_eq, hnext_empty, st, l4, l5, fa39_4, fa39_5, w1, w2, f3, w3, hp', hl', f4, w4, w5, w6, w7, w8, q4, f5]) <;> exact rfl)))  | ((first | refine OpsP.guard (x := ?_) (b := ?_) ?hj ?hx ?hd ?_ | (refine DrP.guard (d := ?_) (op := ?_) (t := ?_) (p := ?_) (a := ?_) (j := ?_) (w := ?_) (x := ?_) (b := ?_) ?ho ?hj ?hx ?hd ?_; (case ho => rfl)) | refine EvP.condB (c := ?_) ?hx ?_); (try case hj => rfl); (case hx => ((try simp only [val, get_set, get_nil, ofArgs, ofValue, Nat.reduceEqDiff, reduceIte, Option.map_some, w, hlen, f1, f2, hp, hl, call16_13, hg, zero39, LV.cells, putNew_eq, hnext_empty, st, l4, l5, fa39_4, fa39_5, w1, w2, f3, w3, hp', hl', f4, w4, w5, w6, w7, w8, q4, f5]) <;> exact rfl)); (try case hd => rfl)))
                  refine ⟨_, rfl, ?_⟩
                  simp only [oneOf, get_set, Nat.reduceEqDiff, reduceIte, longN, hd, insN, if_neg hx, hs, hrow, if_neg hn]
                  rw [hd'] at hz ⊢
                  simp only [if_neg hy, if_pos hz]
                  rfl
                · have f5 : Nat.blt (cs.length - i) (2 + (y + 3) / 4) = false := by rw [blt_eq]; simp; omega
                  refine Evc.of rfl Try.func24 rfl rfl ?_
                  have chk_ : True := by simp only [w, hlen, f1, f2, hp, hl, call16_13, hg, zero39, LV.cells, putNew_eq, hnext_empty, st, l4, l5, fa39_4, fa39_5, w1, w2, f3, w3, hp', hl', f4, w4, w5, w6, w7, w8, q4, f5]
                  clear chk_
                  repeat (first | refine EvP.seq ?_ | refine EvP.region ?_ | refine OpsP.nil ?_ | refine GuardP.no ?_ | refine DGuardP.no ?_ | refine DrP.nil ?_ | refine CondP.t ?_ | refine CondP.f ?_ | refine EvP.ret ?_ | refine EvP.skip ?_ | refine EvP.exit ?_ | refine EvP.block ?_ | refine EvP.scope ?_  | ((first | refine OpsP.put (v := ?_) (h1 := ?_) ?hd ?he ?_ | refine OpsP.eff (v := ?_) (h1 := ?_) ?he ?_ | refine GuardP.yes (v := ?_) (h1 := ?_) ?he ?_  | (refine DrP.put (d := ?_) (op := ?_) (t := ?_) (p := ?_) (a := ?_) (v := ?_) (h1 := ?_) ?ho ?hd ?he ?_; (case ho => rfl)) | (refine DrP.eff (op := ?_) (t := ?_) (p := ?_) (a := ?_) (v := ?_) (h1 := ?_) ?ho ?he ?_; (case ho => rfl)) | refine DGuardP.yes (v := ?_) (h1 := ?_) ?he ?_); (try case hd => rfl); (case he => intro run; ((try simp only [evOp, evA, val, vals, oval, parts, get_set, get_nil, ofArgs, ofValue, binOpE, arith, ilt, convertE, unOpE, builtinE, callV, List.nil_append, List.append_nil, Option.bind_some, Option.map_some, Nat.reduceEqDiff, reduceIte, Bool.not_true, Bool.not_false, List.getElem?_cons_zero, List.getElem?_cons_succ, List.getElem?_toArray, Array.toList, List.mapM_cons, List.mapM_nil, Option.pure_def, Option.bind_eq_bind, w, hlen, f1, f2, hp, hl, call16_13, hg, zero39, LV.cells, putNew_eq, hnext_empty, st, l4, l5, fa39_4, fa39_5, w1, w2, f3, w3, hp', hl', f4, w4, w5, w6, w7, w8, q4, f5]) <;> exact rfl)))  | ((first | refine OpsP.guard (x := ?_) (b := ?_) ?hj ?hx ?hd ?_ | (refine DrP.guard (d := ?_) (op := ?_) (t := ?_) (p := ?_) (a := ?_) (j := ?_) (w := ?_) (x := ?_) (b := ?_) ?ho ?hj ?hx ?hd ?_; (case ho => rfl)) | refine EvP.condB (c := ?_) ?hx ?_); (try case hj => rfl); (case hx => ((try simp only [val, get_set, get_nil, ofArgs, ofValue, Nat.reduceEqDiff, reduceIte, Option.map_some, w, hlen, f1, f2, hp, hl, call16_13, hg, zero39, LV.cells, putNew_eq, hnext_empty, st, l4, l5, fa39_4, fa39_5, w1, w2, f3, w3, hp', hl', f4, w4, w5, w6, w7, w8, q4, f5]) <;> exact rfl)); (try case hd => rfl)))
                  refine ⟨_, rfl, ?_⟩
                  simp only [oneOf, get_set, Nat.reduceEqDiff, reduceIte, longN, hd, insN, if_neg hx, hs, hrow, if_neg hn]
                  rw [hd'] at hz ⊢
                  simp only [if_neg hy, if_neg hz]
    · have f1 : Nat.blt i cs.length = false := by rw [blt_eq]; simp; omega
      refine Evc.of rfl Try.func24 rfl rfl ?_
      have chk_ : True := by simp only [w, hlen, f1]
      clear chk_
      repeat (first | refine EvP.seq ?_ | refine EvP.region ?_ | refine OpsP.nil ?_ | refine GuardP.no ?_ | refine DGuardP.no ?_ | refine DrP.nil ?_ | refine CondP.t ?_ | refine CondP.f ?_ | refine EvP.ret ?_ | refine EvP.skip ?_ | refine EvP.exit ?_ | refine EvP.block ?_ | refine EvP.scope ?_  | ((first | refine OpsP.put (v := ?_) (h1 := ?_) ?hd ?he ?_ | refine OpsP.eff (v := ?_) (h1 := ?_) ?he ?_ | refine GuardP.yes (v := ?_) (h1 := ?_) ?he ?_  | (refine DrP.put (d := ?_) (op := ?_) (t := ?_) (p := ?_) (a := ?_) (v := ?_) (h1 := ?_) ?ho ?hd ?he ?_; (case ho => rfl)) | (refine DrP.eff (op := ?_) (t := ?_) (p := ?_) (a := ?_) (v := ?_) (h1 := ?_) ?ho ?he ?_; (case ho => rfl)) | refine DGuardP.yes (v := ?_) (h1 := ?_) ?he ?_); (try case hd => rfl); (case he => intro run; ((try simp only [evOp, evA, val, vals, oval, parts, get_set, get_nil, ofArgs, ofValue, binOpE, arith, ilt, convertE, unOpE, builtinE, callV, List.nil_append, List.append_nil, Option.bind_some, Option.map_some, Nat.reduceEqDiff, reduceIte, Bool.not_true, Bool.not_false, List.getElem?_cons_zero, List.getElem?_cons_succ, List.getElem?_toArray, Array.toList, List.mapM_cons, List.mapM_nil, Option.pure_def, Option.bind_eq_bind, w, hlen, f1]) <;> exact rfl)))  | ((first | refine OpsP.guard (x := ?_) (b := ?_) ?hj ?hx ?hd ?_ | (refine DrP.guard (d := ?_) (op := ?_) (t := ?_) (p := ?_) (a := ?_) (j := ?_) (w := ?_) (x := ?_) (b := ?_) ?ho ?hj ?hx ?hd ?_; (case ho => rfl)) | refine EvP.condB (c := ?_) ?hx ?_); (try case hj => rfl); (case hx => ((try simp only [val, get_set, get_nil, ofArgs, ofValue, Nat.reduceEqDiff, reduceIte, Option.map_some, w, hlen, f1]) <;> exact rfl)); (try case hd => rfl)))
      refine ⟨_, rfl, ?_⟩
      simp only [oneOf, get_set, Nat.reduceEqDiff, reduceIte, longN, List.drop_eq_nil_of_le (show cs.length ≤ i by omega), insN]
      rfl
theorem long_ok : PureOk Try.prog ov16 24 fLong := pureOk_of fun vs p hp => by
  unfold fLong at hp
  split at hp
  · rename_i cd at_
    obtain ⟨cs, hcd, e⟩ := mp hp
    subst e
    obtain ⟨r, h1, k1, rfl⟩ := long_body cd cs hcd at_
    exact ⟨_, h1, k1, rfl⟩
  · cases hp
def ov17 : Ov := ov16.with 24 fLong
theorem ov17_ok : OvOk Try.prog ov17 := Ov.with_ok prog_ok ov16_ok long_ok
end Go.Ev

namespace Go.Ev
open Go.Proofs
set_option linter.unusedSimpArgs false
set_option linter.unusedVariables false
set_option maxHeartbeats 2000000
/-! prim.starts -/
def i64s (l : List Nat) : List LV := l.map fun x => .int .i64 (.ofNat x)
def wlN (m : Nat) : Nat := if m ≤ 1 then 0 else 1
def intsGift (l : List Nat) (w : Bool) : Gift :=
  match l with
  | [] => (none, fun _ => .tuple [.nils, .bool w])
  | x :: l => (some (.row (i64s (x :: l)) l.length (wlN (l.length + 1))), fun id => .tuple [.slice id l.length 0 (l.length + 1) none 1, .bool w])
def startsF : Nat → Nat → List Nat → Option (List Nat)
  | _, _, [] => some []
  | 0, _, _ :: _ => none
  | k + 1, at_, c :: r =>
    match insN (c :: r) with
    | 0 => none
    | n + 1 => (startsF k (at_ + (n + 1)) (r.drop n)).map (at_ :: ·)
def startsN (cs : List Nat) : Option (List Nat) := startsF cs.length 0 cs
def startsGift (cs : List Nat) : Gift := match startsN cs with
  | some l => intsGift l true
  | none => (none, fun _ => .tuple [.nils, .bool false])
def fStarts : Pure
  | [cd] => (codeOf cd).map startsGift
  | _ => none
theorem insN_le (cs : List Nat) : insN cs ≤ cs.length := by
  unfold insN
  split
  · simp
  · rename_i x r
    split
    · simp
    · split
      · simp
      · rename_i j hs
        split
        · simp
        · rename_i hn
          split
          · simp; omega
          · split
            · simp
            · rename_i y r'
              split
              · simp
              · split
                · simp
                · rename_i h; simp at h ⊢; omega
theorem under24 : Try.prog.underlying 24 = some (.slice 3) := by kernel_rfl
theorem under3 : Try.prog.underlying 3 = some (.int .i64) := by kernel_rfl
theorem sz3 : szOf Try.prog 3 = some 1 := by kernel_rfl
theorem bytes3 : bytesOfT Try.prog 3 = some 8 := by kernel_rfl
theorem zero3 : zeroLV Try.prog 3 = some (.int .i64 0) := by kernel_rfl
theorem bs24 (v : Int) : buildSliceA Try.prog 24 1 [(0, .int .i64 v)] = some (.row [.int .i64 v] 0 0, fun b => .slice b 0 0 1 (some 1) 1) := by kernel_rfl
theorem zerosB24 : zerosB Try.prog (some 24) = some false := by simp only [zerosB, under24]
/-- One number behind none. -/
theorem app24_nil {h : Heap} {b : Nat} {v : Int} (hb : h.get b = some (.row [.int .i64 v] 0 0)) :
    appendE Try.prog 24 (some 24) .nils (.slice b 0 0 1 (some 1) 1) h = some (.slice h.next 0 0 1 none 1, (h.new (.row [.int .i64 v] 0 0)).2) := by
  have hr : readN h b 0 0 (1 * 1) = some [.int .i64 v] := by simp only [readN, hb]; rfl
  have ha : appended Try.prog 3 1 false (.slice b 0 0 1 (some 1) 1) h = some (1, [.int .i64 v]) := by
    simp only [appended, lenOf?, viewCells, hr, Option.bind_some]; rfl
  have hc : (!Nat.beq 1 0 && Nat.ble ((0 + 1) * 8) maxBytes && Nat.ble (0 + 1) maxBytes && [LV.int .i64 v].all LV.isCell) = true := by
    simp only [List.all_cons, List.all_nil, LV.isCell, maxBytes]; decide
  simp only [appendE, under24, sz3, bytes3, zerosB24, lenOf?, ha, Option.bind_some, hc, freshRow, zero3, LV.cells]
  rfl
/-- One number behind some. -/
theorem app24_one {h : Heap} {b q g m wl : Nat} {cells : List LV} {v : Int} (hb : h.get b = some (.row [.int .i64 v] 0 0)) (hq : h.get q = some (.row cells g wl)) (hm : cells.length = m) (hl : m + 1 < 2 ^ 42) :
    appendE Try.prog 24 (some 24) (.slice q g 0 m none 1) (.slice b 0 0 1 (some 1) 1) h =
      some (.slice q (g + 1) 0 (m + 1) none 1, h.set q (.row (cells ++ [.int .i64 v]) (g + 1) (Nat.min (match Nat.beq g 0 with | true => m | false => wl) m))) := by
  subst hm
  have hr : readN h b 0 0 (1 * 1) = some [.int .i64 v] := by simp only [readN, hb]; rfl
  have ha : appended Try.prog 3 1 false (.slice b 0 0 1 (some 1) 1) h = some (1, [.int .i64 v]) := by
    simp only [appended, lenOf?, viewCells, hr, Option.bind_some]; rfl
  have hc : (!Nat.beq 1 0 && Nat.ble ((cells.length + 1) * 8) maxBytes && Nat.ble (cells.length + 1) maxBytes && [LV.int .i64 v].all LV.isCell) = true := by
    have h1 : Nat.ble ((cells.length + 1) * 8) maxBytes = true := by rw [ble_eq, decide_eq_true_iff]; show _ ≤ 70368744177664; omega
    have h2 : Nat.ble (cells.length + 1) maxBytes = true := by rw [ble_eq, decide_eq_true_iff]; show _ ≤ 70368744177664; omega
    rw [h1, h2]; rfl
  have hx : (Nat.beq g g && Nat.ble (0 + (cells.length + 1) * 1) cells.length) = false := by
    have : Nat.ble (0 + (cells.length + 1) * 1) cells.length = false := by rw [ble_eq, decide_eq_false_iff_not]; omega
    rw [this, Bool.and_false]
  have hr2 : readN h q g 0 (cells.length * 1) = some cells := by
    have h1 : Nat.ble (0 + cells.length * 1) cells.length = true := by rw [ble_eq, decide_eq_true_iff]; omega
    have h2 : Nat.beq g g = true := by rw [beq_eq]; simp
    simp only [readN, hq, isHi, h2, h1, Bool.and_self, List.drop_zero]
    rw [List.take_of_length_le (by omega)]
  have ht : cells.take (0 + cells.length * 1) = cells := List.take_of_length_le (by omega)
  have hw : (0 + cells.length * 1) = cells.length := by omega
  have h11 : Nat.beq 1 1 = true := rfl
  simp only [appendE, under24, sz3, bytes3, zerosB24, lenOf?, ha, Option.bind_some, hc, hq, hx, hr2, zero3, LV.cells, h11, ht, hw, List.length_singleton, List.take_length]
  cases Nat.beq g 0 <;> rfl
/-- What is called by value. -/
theorem pure1 {F : Pure} {h : Heap} {a a' : LV} (ha : freezeV h 10 a = some a') : pureCall F [a] h = (F [a']).map (putGift h) := by
  simp only [pureCall, List.mapM_cons, List.mapM_nil, ha, Option.pure_def, Option.bind_eq_bind, Option.bind_some]
theorem pure2 {F : Pure} {h : Heap} {a a' b b' : LV} (ha : freezeV h 10 a = some a') (hb : freezeV h 10 b = some b') : pureCall F [a, b] h = (F [a', b']).map (putGift h) := by
  simp only [pureCall, List.mapM_cons, List.mapM_nil, ha, hb, Option.pure_def, Option.bind_eq_bind, Option.bind_some]
/-- A value that is a code, in a heap. -/
def CodeV (h : Heap) (cd : LV) (cs : List Nat) : Prop := ∃ v, freezeV h 10 cd = some v ∧ codeOf v = some cs
theorem u32s_bare (cs : List Nat) (d : Nat) : (u32s cs).all (bareV (d + 1)) = true := by
  rw [List.all_eq_true]
  intro x hx
  obtain ⟨n, _, rfl⟩ := List.mem_map.1 hx
  rfl
theorem codeV_of {cd : LV} {cs : List Nat} (h : codeOf cd = some cs) (hp : Heap) : CodeV hp cd cs := by
  refine ⟨cd, ?_, h⟩
  rcases codeOf_shape h with ⟨rfl, rfl⟩ | rfl
  · rfl
  · show ((u32s cs).mapM (freezeV hp 9)).map (fun us => LV.vs us cs.length) = _
    rw [mapM_bare hp 9 _ (u32s_bare cs 8)]; rfl
theorem call17_24 (run : Run) {h : Heap} {cd : LV} {cs : List Nat} (hc : CodeV h cd cs) (at_ : Int) : callE Try.prog ov17 run 24 [cd, .int .i64 at_] h = some (.int .i64 (.ofNat (longN cs at_)), h) := by
  obtain ⟨v, h1, h2⟩ := hc
  show pureCall fLong _ h = _
  rw [pure2 h1 (rfl : freezeV h 10 (.int .i64 at_) = some (.int .i64 at_))]
  simp only [fLong, h2, Option.map_some, putGift]
theorem call17_24' (run : Run) (h : Heap) {cd : LV} {cs : List Nat} (hc : codeOf cd = some cs) (at_ : Int) : callE Try.prog ov17 run 24 [cd, .int .i64 at_] h = some (.int .i64 (.ofNat (longN cs at_)), h) := call17_24 run (codeV_of hc h) at_
theorem startsN_step {cs : List Nat} {at_ k n : Nat} {pre : List Nat} (hat : at_ < cs.length) (hn : insN (cs.drop at_) = n + 1) (hk : cs.length - at_ ≤ k + 1) (h : (startsF (k + 1) at_ (cs.drop at_)).map (pre ++ ·) = startsN cs) :
    (startsF k (at_ + (n + 1)) (cs.drop (at_ + (n + 1)))).map ((pre ++ [at_]) ++ ·) = startsN cs := by
  have hd : cs.drop at_ = cs[at_] :: cs.drop (at_ + 1) := List.drop_eq_getElem_cons hat
  rw [← h, hd]
  rw [hd] at hn
  have hs : startsF (k + 1) at_ (cs[at_] :: cs.drop (at_ + 1)) = (startsF k (at_ + (n + 1)) ((cs.drop (at_ + 1)).drop n)).map (at_ :: ·) := by simp only [startsF, hn]
  rw [hs]
  simp only [List.drop_drop, Option.map_map]
  rw [show at_ + 1 + n = at_ + (n + 1) by omega]
  congr 1
  funext l
  simp
theorem starts_body (cd : LV) (cs : List Nat) (hcd : codeOf cd = some cs) : ∃ r h1, Evc Try.prog ov17 23 [cd] Heap.empty (r, h1) ∧ giftE h1 r = some (startsGift cs) := by
  have hL := codeOf_len hcd
  have hlen := code_len hcd
  refine Evc.of rfl Try.func23 rfl rfl ?_
  repeat (first | refine EvP.seq ?_ | refine EvP.region ?_ | refine OpsP.nil ?_ | refine GuardP.no ?_ | refine DGuardP.no ?_ | refine DrP.nil ?_ | refine CondP.t ?_ | refine CondP.f ?_ | refine EvP.ret ?_ | refine EvP.skip ?_ | refine EvP.exit ?_ | refine EvP.block ?_ | refine EvP.scope ?_  | ((first | refine OpsP.put (v := ?_) (h1 := ?_) ?hd ?he ?_ | refine OpsP.eff (v := ?_) (h1 := ?_) ?he ?_ | refine GuardP.yes (v := ?_) (h1 := ?_) ?he ?_  | (refine DrP.put (d := ?_) (op := ?_) (t := ?_) (p := ?_) (a := ?_) (v := ?_) (h1 := ?_) ?ho ?hd ?he ?_; (case ho => rfl)) | (refine DrP.eff (op := ?_) (t := ?_) (p := ?_) (a := ?_) (v := ?_) (h1 := ?_) ?ho ?he ?_; (case ho => rfl)) | refine DGuardP.yes (v := ?_) (h1 := ?_) ?he ?_); (try case hd => rfl); (case he => intro run; ((try simp only [evOp, evA, val, vals, oval, parts, get_set, get_nil, ofArgs, ofValue, binOpE, arith, ilt, convertE, unOpE, builtinE, lenE, callV, List.nil_append, List.append_nil, Option.bind_some, Option.map_some, Nat.reduceEqDiff, reduceIte, Bool.not_true, Bool.not_false, List.getElem?_cons_zero, List.getElem?_cons_succ, List.getElem?_toArray, Array.toList, List.mapM_cons, List.mapM_nil, Option.pure_def, Option.bind_eq_bind]) <;> exact rfl)))  | ((first | refine OpsP.guard (x := ?_) (b := ?_) ?hj ?hx ?hd ?_ | (refine DrP.guard (d := ?_) (op := ?_) (t := ?_) (p := ?_) (a := ?_) (j := ?_) (w := ?_) (x := ?_) (b := ?_) ?ho ?hj ?hx ?hd ?_; (case ho => rfl)) | refine EvP.condB (c := ?_) ?hx ?_); (try case hj => rfl); (case hx => ((try simp only [val, get_set, get_nil, ofArgs, ofValue, Nat.reduceEqDiff, reduceIte, Option.map_some]) <;> exact rfl)); (try case hd => rfl)))
  refine EvP.loop (fun m tm h => tm.get 0 = cd ∧ ∃ i pre k, m = cs.length - i ∧ i ≤ cs.length ∧ tm.get 5 = .int .i64 (.ofNat i) ∧ pre.length ≤ i ∧ cs.length - i ≤ k ∧ (startsF k i (cs.drop i)).map (pre ++ ·) = startsN cs ∧
      ((pre = [] ∧ tm.get 4 = .nils) ∨ ∃ q x l, pre = x :: l ∧ tm.get 4 = .slice q l.length 0 (l.length + 1) none 1 ∧ h.get q = some (.row (i64s pre) l.length (wlN (l.length + 1))) ∧ q < h.next)) cs.length ?_ ?_
  · refine ⟨?_, 0, [], cs.length, rfl, by omega, ?_, Nat.le_refl _, Nat.le_refl _, ?_, .inl ⟨rfl, ?_⟩⟩
    · exact (by (try simp only [val, get_set, get_nil, ofArgs, ofValue, Nat.reduceEqDiff, reduceIte, Option.map_some]) <;> exact rfl)
    · exact (by (try simp only [val, get_set, get_nil, ofArgs, ofValue, Nat.reduceEqDiff, reduceIte, Option.map_some]) <;> exact rfl)
    · simp [startsN]
    · exact (by (try simp only [val, get_set, get_nil, ofArgs, ofValue, Nat.reduceEqDiff, reduceIte, Option.map_some]) <;> exact rfl)
  · rintro m tm h ⟨h0, i, pre, k, rfl, hi, h5, hpl, hk, hst, hpre⟩
    by_cases hlt : i < cs.length
    · have f1 : Nat.blt i cs.length = true := by rw [blt_eq]; simp [hlt]
      have hd : cs.drop i = cs[i] :: cs.drop (i + 1) := List.drop_eq_getElem_cons hlt
      have hcl := fun run h => call17_24' run h hcd (.ofNat i)
      have hln : longN cs (.ofNat i) = insN (cs.drop i) := rfl
      obtain ⟨k, rfl⟩ : ∃ k', k = k' + 1 := ⟨k - 1, by omega⟩
      have hle : insN (cs.drop i) ≤ cs.length - i := by have := insN_le (cs.drop i); simpa using this
      cases hn : insN (cs.drop i) with
      | zero =>
        rw [hln, hn] at hcl
        have chk_ : True := by simp only [h0, h5, hlen, f1, hcl, ieq]
        clear chk_
        repeat (first | refine EvP.seq ?_ | refine EvP.region ?_ | refine OpsP.nil ?_ | refine GuardP.no ?_ | refine DGuardP.no ?_ | refine DrP.nil ?_ | refine CondP.t ?_ | refine CondP.f ?_ | refine EvP.ret ?_ | refine EvP.skip ?_ | refine EvP.exit ?_ | refine EvP.block ?_ | refine EvP.scope ?_  | ((first | refine OpsP.put (v := ?_) (h1 := ?_) ?hd ?he ?_ | refine OpsP.eff (v := ?_) (h1 := ?_) ?he ?_ | refine GuardP.yes (v := ?_) (h1 := ?_) ?he ?_  | (refine DrP.put (d := ?_) (op := ?_) (t := ?_) (p := ?_) (a := ?_) (v := ?_) (h1 := ?_) ?ho ?hd ?he ?_; (case ho => rfl)) | (refine DrP.eff (op := ?_) (t := ?_) (p := ?_) (a := ?_) (v := ?_) (h1 := ?_) ?ho ?he ?_; (case ho => rfl)) | refine DGuardP.yes (v := ?_) (h1 := ?_) ?he ?_); (try case hd => rfl); (case he => intro run; ((try simp only [evOp, evA, val, vals, oval, parts, get_set, get_nil, ofArgs, ofValue, binOpE, arith, ilt, convertE, unOpE, builtinE, callV, List.nil_append, List.append_nil, Option.bind_some, Option.map_some, Nat.reduceEqDiff, reduceIte, Bool.not_true, Bool.not_false, List.getElem?_cons_zero, List.getElem?_cons_succ, List.getElem?_toArray, Array.toList, List.mapM_cons, List.mapM_nil, Option.pure_def, Option.bind_eq_bind, h0, h5, hlen, f1, hcl, ieq]) <;> exact rfl)))  | ((first | refine OpsP.guard (x := ?_) (b := ?_) ?hj ?hx ?hd ?_ | (refine DrP.guard (d := ?_) (op := ?_) (t := ?_) (p := ?_) (a := ?_) (j := ?_) (w := ?_) (x := ?_) (b := ?_) ?ho ?hj ?hx ?hd ?_; (case ho => rfl)) | refine EvP.condB (c := ?_) ?hx ?_); (try case hj => rfl); (case hx => ((try simp only [val, get_set, get_nil, ofArgs, ofValue, Nat.reduceEqDiff, reduceIte, Option.map_some, h0, h5, hlen, f1, hcl, ieq]) <;> exact rfl)); (try case hd => rfl)))
        refine ⟨_, rfl, ?_⟩
        simp only [oneOf, get_set, Nat.reduceEqDiff, reduceIte]
        have : startsN cs = none := by
          rw [← hst, hd]
          rw [hd] at hn
          simp only [startsF, hn, Option.map_none]
        simp only [startsGift, this]
        rfl
      | succ n =>
        rw [hln, hn] at hcl
        have hst' := startsN_step hlt hn hk hst
        have w1 : wrap .i64 (Int.ofNat i + Int.ofNat (n + 1)) = .ofNat (i + (n + 1)) := by rw [show Int.ofNat i + Int.ofNat (n + 1) = Int.ofNat (i + (n + 1)) from rfl, wrap_nat .i64 _ (by simp only [half]; omega)]
        have n0 : Nat.beq (n + 1) 0 = false := rfl
        have hg : (h.new (.row [.int .i64 (.ofNat i)] 0 0)).2.get h.next = some (.row [.int .i64 (.ofNat i)] 0 0) := by simp only [hget_new, reduceIte]
        rcases hpre with ⟨rfl, h4⟩ | ⟨q, x, l, rfl, h4, hq, hqn⟩
        · have ha := app24_nil hg
          have chk_ : True := by simp only [h0, h5, h4, hlen, f1, hcl, ieq, n0, bs24, putNew_eq, ha, w1]
          clear chk_
          repeat (first | refine EvP.seq ?_ | refine EvP.region ?_ | refine OpsP.nil ?_ | refine GuardP.no ?_ | refine DGuardP.no ?_ | refine DrP.nil ?_ | refine CondP.t ?_ | refine CondP.f ?_ | refine EvP.ret ?_ | refine EvP.skip ?_ | refine EvP.exit ?_ | refine EvP.block ?_ | refine EvP.scope ?_  | ((first | refine OpsP.put (v := ?_) (h1 := ?_) ?hd ?he ?_ | refine OpsP.eff (v := ?_) (h1 := ?_) ?he ?_ | refine GuardP.yes (v := ?_) (h1 := ?_) ?he ?_  | (refine DrP.put (d := ?_) (op := ?_) (t := ?_) (p := ?_) (a := ?_) (v := ?_) (h1 := ?_) ?ho ?hd ?he ?_; (case ho => rfl)) | (refine DrP.eff (op := ?_) (t := ?_) (p := ?_) (a := ?_) (v := ?_) (h1 := ?_) ?ho ?he ?_; (case ho => rfl)) | refine DGuardP.yes (v := ?_) (h1 := ?_) ?he ?_); (try case hd => rfl); (case he => intro run; ((try simp only [evOp, evA, val, vals, oval, parts, get_set, get_nil, ofArgs, ofValue, binOpE, arith, ilt, convertE, unOpE, builtinE, callV, List.nil_append, List.append_nil, Option.bind_some, Option.map_some, Nat.reduceEqDiff, reduceIte, Bool.not_true, Bool.not_false, List.getElem?_cons_zero, List.getElem?_cons_succ, List.getElem?_toArray, Array.toList, List.mapM_cons, List.mapM_nil, Option.pure_def, Option.bind_eq_bind, h0, h5, h4, hlen, f1, hcl, ieq, n0, bs24, putNew_eq, ha, w1]) <;> exact rfl)))  | ((first | refine OpsP.guard (x := ?_) (b := ?_) ?hj ?hx ?hd ?_ | (refine DrP.guard (d := ?_) (op := ?_) (t := ?_) (p := ?_) (a := ?_) (j := ?_) (w := ?_) (x := ?_) (b := ?_) ?ho ?hj ?hx ?hd ?_; (case ho => rfl)) | refine EvP.condB (c := ?_) ?hx ?_); (try case hj => rfl); (case hx => ((try simp only [val, get_set, get_nil, ofArgs, ofValue, Nat.reduceEqDiff, reduceIte, Option.map_some, h0, h5, h4, hlen, f1, hcl, ieq, n0, bs24, putNew_eq, ha, w1]) <;> exact rfl)); (try case hd => rfl)))
          refine ⟨cs.length - (i + (n + 1)), by omega, ?_, i + (n + 1), [i], k, rfl, by omega, ?_, ?_, by omega, ?_, .inr ⟨h.next + 1, i, [], rfl, ?_, ?_, ?_⟩⟩
          · exact (by (try simp only [val, get_set, get_nil, ofArgs, ofValue, Nat.reduceEqDiff, reduceIte, Option.map_some, h0]) <;> exact rfl)
          · exact (by (try simp only [val, get_set, get_nil, ofArgs, ofValue, Nat.reduceEqDiff, reduceIte, Option.map_some]) <;> exact rfl)
          · show 1 ≤ _; omega
          · exact hst'
          · exact (by (try simp only [val, get_set, get_nil, ofArgs, ofValue, Nat.reduceEqDiff, reduceIte, Option.map_some, hnext_new]) <;> exact rfl)
          · simp only [hget_new, hnext_new, reduceIte]; rfl
          · simp only [hnext_new]; omega
        · have hq' : (h.new (.row [.int .i64 (.ofNat i)] 0 0)).2.get q = some (.row (i64s (x :: l)) l.length (wlN (l.length + 1))) := by
            rw [hget_new, if_neg (by omega), hq]
          have ha := app24_one hg hq' (m := l.length + 1) (by simp [i64s]) (by simp at hpl; omega)
          have chk_ : True := by simp only [h0, h5, h4, hlen, f1, hcl, ieq, n0, bs24, putNew_eq, ha, w1]
          clear chk_
          repeat (first | refine EvP.seq ?_ | refine EvP.region ?_ | refine OpsP.nil ?_ | refine GuardP.no ?_ | refine DGuardP.no ?_ | refine DrP.nil ?_ | refine CondP.t ?_ | refine CondP.f ?_ | refine EvP.ret ?_ | refine EvP.skip ?_ | refine EvP.exit ?_ | refine EvP.block ?_ | refine EvP.scope ?_  | ((first | refine OpsP.put (v := ?_) (h1 := ?_) ?hd ?he ?_ | refine OpsP.eff (v := ?_) (h1 := ?_) ?he ?_ | refine GuardP.yes (v := ?_) (h1 := ?_) ?he ?_  | (refine DrP.put (d := ?_) (op := ?_) (t := ?_) (p := ?_) (a := ?_) (v := ?_) (h1 := ?_) ?ho ?hd ?he ?_; (case ho => rfl)) | (refine DrP.eff (op := ?_) (t := ?_) (p := ?_) (a := ?_) (v := ?_) (h1 := ?_) ?ho ?he ?_; (case ho => rfl)) | refine DGuardP.yes (v := ?_) (h1 := ?_) ?he ?_); (try case hd => rfl); (case he => intro run; ((try simp only [evOp, evA, val, vals, oval, parts, get_set, get_nil, ofArgs, ofValue, binOpE, arith, ilt, convertE, unOpE, builtinE, callV, List.nil_append, List.append_nil, Option.bind_some, Option.map_some, Nat.reduceEqDiff, reduceIte, Bool.not_true, Bool.not_false, List.getElem?_cons_zero, List.getElem?_cons_succ, List.getElem?_toArray, Array.toList, List.mapM_cons, List.mapM_nil, Option.pure_def, Option.bind_eq_bind, h0, h5, h4, hlen, f1, hcl, ieq, n0, bs24, putNew_eq, ha, w1]) <;> exact rfl)))  | ((first | refine OpsP.guard (x := ?_) (b := ?_) ?hj ?hx ?hd ?_ | (refine DrP.guard (d := ?_) (op := ?_) (t := ?_) (p := ?_) (a := ?_) (j := ?_) (w := ?_) (x := ?_) (b := ?_) ?ho ?hj ?hx ?hd ?_; (case ho => rfl)) | refine EvP.condB (c := ?_) ?hx ?_); (try case hj => rfl); (case hx => ((try simp only [val, get_set, get_nil, ofArgs, ofValue, Nat.reduceEqDiff, reduceIte, Option.map_some, h0, h5, h4, hlen, f1, hcl, ieq, n0, bs24, putNew_eq, ha, w1]) <;> exact rfl)); (try case hd => rfl)))
          refine ⟨cs.length - (i + (n + 1)), by omega, ?_, i + (n + 1), x :: (l ++ [i]), k, rfl, by omega, ?_, ?_, by omega, ?_, .inr ⟨q, x, l ++ [i], rfl, ?_, ?_, ?_⟩⟩
          · exact (by (try simp only [val, get_set, get_nil, ofArgs, ofValue, Nat.reduceEqDiff, reduceIte, Option.map_some, h0]) <;> exact rfl)
          · exact (by (try simp only [val, get_set, get_nil, ofArgs, ofValue, Nat.reduceEqDiff, reduceIte, Option.map_some]) <;> exact rfl)
          · simp at hpl ⊢; omega
          · exact hst'
          · simp only [get_set, Nat.reduceEqDiff, reduceIte, List.length_append, List.length_singleton]
          · simp only [hget_set, reduceIte, List.length_append, List.length_singleton]
            have e1 : i64s (x :: l) ++ [LV.int .i64 (.ofNat i)] = i64s (x :: (l ++ [i])) := by simp [i64s]
            have e2 : Nat.min (match Nat.beq l.length 0 with | true => l.length + 1 | false => wlN (l.length + 1)) (l.length + 1) = wlN (l.length + 1 + 1) := by
              cases l with
              | nil => rfl
              | cons y l => simp [wlN, Nat.beq]
            rw [e1, e2]
          · simp only [hnext_set, hnext_new]; omega
    · have f1 : Nat.blt i cs.length = false := by rw [blt_eq]; simp; omega
      have : i = cs.length := by omega
      subst this
      have hst2 : startsN cs = some pre := by
        rw [← hst, List.drop_length]
        cases k <;> simp [startsF]
      have chk_ : True := by simp only [h0, h5, hlen, f1]
      clear chk_
      repeat (first | refine EvP.seq ?_ | refine EvP.region ?_ | refine OpsP.nil ?_ | refine GuardP.no ?_ | refine DGuardP.no ?_ | refine DrP.nil ?_ | refine CondP.t ?_ | refine CondP.f ?_ | refine EvP.ret ?_ | refine EvP.skip ?_ | refine EvP.exit ?_ | refine EvP.block ?_ | refine EvP.scope ?_  | ((first | refine OpsP.put (v := ?_) (h1 := ?_) ?hd ?he ?_ | refine OpsP.eff (v := ?_) (h1 := ?_) ?he ?_ | refine GuardP.yes (v := ?_) (h1 := ?_) ?he ?_  | (refine DrP.put (d := ?_) (op := ?_) (t := ?_) (p := ?_) (a := ?_) (v := ?_) (h1 := ?_) ?ho ?hd ?he ?_; (case ho => rfl)) | (refine DrP.eff (op := ?_) (t := ?_) (p := ?_) (a := ?_) (v := ?_) (h1 := ?_) ?ho ?he ?_; (case ho => rfl)) | refine DGuardP.yes (v := ?_) (h1 := ?_) ?he ?_); (try case hd => rfl); (case he => intro run; ((try simp only [evOp, evA, val, vals, oval, parts, get_set, get_nil, ofArgs, ofValue, binOpE, arith, ilt, convertE, unOpE, builtinE, callV, List.nil_append, List.append_nil, Option.bind_some, Option.map_some, Nat.reduceEqDiff, reduceIte, Bool.not_true, Bool.not_false, List.getElem?_cons_zero, List.getElem?_cons_succ, List.getElem?_toArray, Array.toList, List.mapM_cons, List.mapM_nil, Option.pure_def, Option.bind_eq_bind, h0, h5, hlen, f1]) <;> exact rfl)))  | ((first | refine OpsP.guard (x := ?_) (b := ?_) ?hj ?hx ?hd ?_ | (refine DrP.guard (d := ?_) (op := ?_) (t := ?_) (p := ?_) (a := ?_) (j := ?_) (w := ?_) (x := ?_) (b := ?_) ?ho ?hj ?hx ?hd ?_; (case ho => rfl)) | refine EvP.condB (c := ?_) ?hx ?_); (try case hj => rfl); (case hx => ((try simp only [val, get_set, get_nil, ofArgs, ofValue, Nat.reduceEqDiff, reduceIte, Option.map_some, h0, h5, hlen, f1]) <;> exact rfl)); (try case hd => rfl)))
      refine ⟨_, rfl, ?_⟩
      simp only [oneOf, get_set, Nat.reduceEqDiff, reduceIte, startsGift, hst2]
      rcases hpre with ⟨rfl, h4⟩ | ⟨q, x, l, rfl, h4, hq, hqn⟩
      · rw [h4]; rfl
      · rw [h4]
        have hb : bareV 10 (.tuple [.slice q l.length 0 (l.length + 1) none 1, .bool true]) = false := rfl
        have hr : rowOf h q = some (.row (i64s (x :: l)) l.length (wlN (l.length + 1))) := by
          have hall : (i64s (x :: l)).all (bareV 10) = true := by
            rw [List.all_eq_true]
            intro y hy
            obtain ⟨n, _, rfl⟩ := List.mem_map.1 hy
            rfl
          simp only [rowOf, hq, hall]
        have hrest : ([LV.bool true].all (bareV 10)) = true := rfl
        simp only [giftE, hb, hrest, hr, Option.map_some, intsGift]
theorem starts_ok : PureOk Try.prog ov17 23 fStarts := pureOk_of fun vs p hp => by
  unfold fStarts at hp
  split at hp
  · rename_i cd
    obtain ⟨cs, hcd, e⟩ := mp hp
    subst e
    exact starts_body cd cs hcd
  · cases hp
def ov18 : Ov := ov17.with 23 fStarts
theorem ov18_ok : OvOk Try.prog ov18 := Ov.with_ok prog_ok ov17_ok starts_ok
end Go.Ev

namespace Go.Ev
open Go.Proofs
set_option linter.unusedSimpArgs false
set_option linter.unusedVariables false
set_option maxHeartbeats 2000000
/-! Starts, Long, ints -/
theorem startsGift_cases (cs : List Nat) : (startsN cs = none ∧ startsGift cs = (none, fun _ => .tuple [.nils, .bool false])) ∨ (startsN cs = some [] ∧ startsGift cs = (none, fun _ => .tuple [.nils, .bool true])) ∨
    ∃ x l, startsN cs = some (x :: l) ∧ startsGift cs = (some (.row (i64s (x :: l)) l.length (wlN (l.length + 1))), fun id => .tuple [.slice id l.length 0 (l.length + 1) none 1, .bool true]) := by
  unfold startsGift
  cases h : startsN cs with
  | none => exact .inl ⟨rfl, rfl⟩
  | some l =>
    cases l with
    | nil => exact .inr (.inl ⟨rfl, rfl⟩)
    | cons x l => exact .inr (.inr ⟨x, l, rfl, rfl⟩)
theorem call18_23 (run : Run) {h : Heap} {cd : LV} {cs : List Nat} (hc : CodeV h cd cs) : callE Try.prog ov18 run 23 [cd] h = some (putGift h (startsGift cs)) := by
  obtain ⟨v, h1, h2⟩ := hc
  show pureCall fStarts _ h = _
  rw [pure1 h1]
  simp only [fStarts, h2, Option.map_some]
theorem i64s_bare (l : List Nat) (d : Nat) : (i64s l).all (bareV (d + 1)) = true := by
  rw [List.all_eq_true]
  intro x hx
  obtain ⟨n, _, rfl⟩ := List.mem_map.1 hx
  rfl
theorem gift_ints {h : Heap} {q : Nat} {x : Nat} {l : List Nat} (hq : h.get q = some (.row (i64s (x :: l)) l.length (wlN (l.length + 1)))) (w : Bool) :
    giftE h (.tuple [.slice q l.length 0 (l.length + 1) none 1, .bool w]) = some (some (.row (i64s (x :: l)) l.length (wlN (l.length + 1))), fun id => .tuple [.slice id l.length 0 (l.length + 1) none 1, .bool w]) := by
  have hb : bareV 10 (.tuple [.slice q l.length 0 (l.length + 1) none 1, .bool w]) = false := rfl
  have hr : rowOf h q = some (.row (i64s (x :: l)) l.length (wlN (l.length + 1))) := by simp only [rowOf, hq, i64s_bare (x :: l) 9]
  have hrest : ([LV.bool w].all (bareV 10)) = true := rfl
  simp only [giftE, hb, hrest, hr, Option.map_some]
theorem starts9_body (cd : LV) (cs : List Nat) (hcd : codeOf cd = some cs) : ∃ r h1, Evc Try.prog ov18 9 [cd] Heap.empty (r, h1) ∧ giftE h1 r = some (startsGift cs) := by
  have hcl := fun run => call18_23 run (codeV_of hcd Heap.empty)
  rcases startsGift_cases cs with ⟨_, hg⟩ | ⟨_, hg⟩ | ⟨x, l, _, hg⟩
  · simp only [hg, putGift] at hcl
    refine Evc.of rfl Try.func9 rfl rfl ?_
    have chk_ : True := by simp only [hcl]
    clear chk_
    repeat (first | refine EvP.seq ?_ | refine EvP.region ?_ | refine OpsP.nil ?_ | refine GuardP.no ?_ | refine DGuardP.no ?_ | refine DrP.nil ?_ | refine CondP.t ?_ | refine CondP.f ?_ | refine EvP.ret ?_ | refine EvP.skip ?_ | refine EvP.exit ?_ | refine EvP.block ?_ | refine EvP.scope ?_  | ((first | refine OpsP.put (v := ?_) (h1 := ?_) ?hd ?he ?_ | refine OpsP.eff (v := ?_) (h1 := ?_) ?he ?_ | refine GuardP.yes (v := ?_) (h1 := ?_) ?he ?_  | (refine DrP.put (d := ?_) (op := ?_) (t := ?_) (p := ?_) (a := ?_) (v := ?_) (h1 := ?_) ?ho ?hd ?he ?_; (case ho => rfl)) | (refine DrP.eff (op := ?_) (t := ?_) (p := ?_) (a := ?_) (v := ?_) (h1 := ?_) ?ho ?he ?_; (case ho => rfl)) | refine DGuardP.yes (v := ?_) (h1 := ?_) ?he ?_); (try case hd => rfl); (case he => intro run; ((try simp only [evOp, evA, val, vals, oval, parts, get_set, get_nil, ofArgs, ofValue, binOpE, arith, ilt, convertE, unOpE, builtinE, lenE, callV, List.nil_append, List.append_nil, Option.bind_some, Option.map_some, Nat.reduceEqDiff, reduceIte, Bool.not_true, Bool.not_false, List.getElem?_cons_zero, List.getElem?_cons_succ, List.getElem?_toArray, Array.toList, List.mapM_cons, List.mapM_nil, Option.pure_def, Option.bind_eq_bind, hcl]) <;> exact rfl)))  | ((first | refine OpsP.guard (x := ?_) (b := ?_) ?hj ?hx ?hd ?_ | (refine DrP.guard (d := ?_) (op := ?_) (t := ?_) (p := ?_) (a := ?_) (j := ?_) (w := ?_) (x := ?_) (b := ?_) ?ho ?hj ?hx ?hd ?_; (case ho => rfl)) | refine EvP.condB (c := ?_) ?hx ?_); (try case hj => rfl); (case hx => ((try simp only [val, get_set, get_nil, ofArgs, ofValue, Nat.reduceEqDiff, reduceIte, Option.map_some, hcl]) <;> exact rfl)); (try case hd => rfl)))
    refine ⟨_, rfl, ?_⟩
    rw [hg]; simp only [oneOf, get_set, Nat.reduceEqDiff, reduceIte]; rfl
  · simp only [hg, putGift] at hcl
    refine Evc.of rfl Try.func9 rfl rfl ?_
    have chk_ : True := by simp only [hcl]
    clear chk_
    repeat (first | refine EvP.seq ?_ | refine EvP.region ?_ | refine OpsP.nil ?_ | refine GuardP.no ?_ | refine DGuardP.no ?_ | refine DrP.nil ?_ | refine CondP.t ?_ | refine CondP.f ?_ | refine EvP.ret ?_ | refine EvP.skip ?_ | refine EvP.exit ?_ | refine EvP.block ?_ | refine EvP.scope ?_  | ((first | refine OpsP.put (v := ?_) (h1 := ?_) ?hd ?he ?_ | refine OpsP.eff (v := ?_) (h1 := ?_) ?he ?_ | refine GuardP.yes (v := ?_) (h1 := ?_) ?he ?_  | (refine DrP.put (d := ?_) (op := ?_) (t := ?_) (p := ?_) (a := ?_) (v := ?_) (h1 := ?_) ?ho ?hd ?he ?_; (case ho => rfl)) | (refine DrP.eff (op := ?_) (t := ?_) (p := ?_) (a := ?_) (v := ?_) (h1 := ?_) ?ho ?he ?_; (case ho => rfl)) | refine DGuardP.yes (v := ?_) (h1 := ?_) ?he ?_); (try case hd => rfl); (case he => intro run; ((try simp only [evOp, evA, val, vals, oval, parts, get_set, get_nil, ofArgs, ofValue, binOpE, arith, ilt, convertE, unOpE, builtinE, lenE, callV, List.nil_append, List.append_nil, Option.bind_some, Option.map_some, Nat.reduceEqDiff, reduceIte, Bool.not_true, Bool.not_false, List.getElem?_cons_zero, List.getElem?_cons_succ, List.getElem?_toArray, Array.toList, List.mapM_cons, List.mapM_nil, Option.pure_def, Option.bind_eq_bind, hcl]) <;> exact rfl)))  | ((first | refine OpsP.guard (x := ?_) (b := ?_) ?hj ?hx ?hd ?_ | (refine DrP.guard (d := ?_) (op := ?_) (t := ?_) (p := ?_) (a := ?_) (j := ?_) (w := ?_) (x := ?_) (b := ?_) ?ho ?hj ?hx ?hd ?_; (case ho => rfl)) | refine EvP.condB (c := ?_) ?hx ?_); (try case hj => rfl); (case hx => ((try simp only [val, get_set, get_nil, ofArgs, ofValue, Nat.reduceEqDiff, reduceIte, Option.map_some, hcl]) <;> exact rfl)); (try case hd => rfl)))
    refine ⟨_, rfl, ?_⟩
    rw [hg]; simp only [oneOf, get_set, Nat.reduceEqDiff, reduceIte]; rfl
  · simp only [hg, putGift, hnext_empty] at hcl
    refine Evc.of rfl Try.func9 rfl rfl ?_
    have chk_ : True := by simp only [hcl]
    clear chk_
    repeat (first | refine EvP.seq ?_ | refine EvP.region ?_ | refine OpsP.nil ?_ | refine GuardP.no ?_ | refine DGuardP.no ?_ | refine DrP.nil ?_ | refine CondP.t ?_ | refine CondP.f ?_ | refine EvP.ret ?_ | refine EvP.skip ?_ | refine EvP.exit ?_ | refine EvP.block ?_ | refine EvP.scope ?_  | ((first | refine OpsP.put (v := ?_) (h1 := ?_) ?hd ?he ?_ | refine OpsP.eff (v := ?_) (h1 := ?_) ?he ?_ | refine GuardP.yes (v := ?_) (h1 := ?_) ?he ?_  | (refine DrP.put (d := ?_) (op := ?_) (t := ?_) (p := ?_) (a := ?_) (v := ?_) (h1 := ?_) ?ho ?hd ?he ?_; (case ho => rfl)) | (refine DrP.eff (op := ?_) (t := ?_) (p := ?_) (a := ?_) (v := ?_) (h1 := ?_) ?ho ?he ?_; (case ho => rfl)) | refine DGuardP.yes (v := ?_) (h1 := ?_) ?he ?_); (try case hd => rfl); (case he => intro run; ((try simp only [evOp, evA, val, vals, oval, parts, get_set, get_nil, ofArgs, ofValue, binOpE, arith, ilt, convertE, unOpE, builtinE, lenE, callV, List.nil_append, List.append_nil, Option.bind_some, Option.map_some, Nat.reduceEqDiff, reduceIte, Bool.not_true, Bool.not_false, List.getElem?_cons_zero, List.getElem?_cons_succ, List.getElem?_toArray, Array.toList, List.mapM_cons, List.mapM_nil, Option.pure_def, Option.bind_eq_bind, hcl]) <;> exact rfl)))  | ((first | refine OpsP.guard (x := ?_) (b := ?_) ?hj ?hx ?hd ?_ | (refine DrP.guard (d := ?_) (op := ?_) (t := ?_) (p := ?_) (a := ?_) (j := ?_) (w := ?_) (x := ?_) (b := ?_) ?ho ?hj ?hx ?hd ?_; (case ho => rfl)) | refine EvP.condB (c := ?_) ?hx ?_); (try case hj => rfl); (case hx => ((try simp only [val, get_set, get_nil, ofArgs, ofValue, Nat.reduceEqDiff, reduceIte, Option.map_some, hcl]) <;> exact rfl)); (try case hd => rfl)))
    refine ⟨_, rfl, ?_⟩
    rw [hg]; simp only [oneOf, get_set, Nat.reduceEqDiff, reduceIte]
    exact gift_ints (by simp only [hget_new, hnext_empty, reduceIte]) true
theorem starts9_ok : PureOk Try.prog ov18 9 fStarts := pureOk_of fun vs p hp => by
  unfold fStarts at hp
  split at hp
  · rename_i cd
    obtain ⟨cs, hcd, e⟩ := mp hp
    subst e
    exact starts9_body cd cs hcd
  · cases hp
def ov19 : Ov := ov18.with 9 fStarts
theorem ov19_ok : OvOk Try.prog ov19 := Ov.with_ok prog_ok ov18_ok starts9_ok
theorem call19_24 (run : Run) (h : Heap) {cd : LV} {cs : List Nat} (hc : codeOf cd = some cs) (at_ : Int) : callE Try.prog ov19 run 24 [cd, .int .i64 at_] h = some (.int .i64 (.ofNat (longN cs at_)), h) := call17_24' run h hc at_
theorem long10_body (cd : LV) (cs : List Nat) (hcd : codeOf cd = some cs) (at_ : Int) : ∃ r h1, Evc Try.prog ov19 10 [cd, .int .i64 at_] Heap.empty (r, h1) ∧ r = .int .i64 (.ofNat (longN cs at_)) := by
  have hcl := fun run h => call19_24 run h hcd at_
  refine Evc.of rfl Try.func10 rfl rfl ?_
  have chk_ : True := by simp only [hcl]
  clear chk_
  repeat (first | refine EvP.seq ?_ | refine EvP.region ?_ | refine OpsP.nil ?_ | refine GuardP.no ?_ | refine DGuardP.no ?_ | refine DrP.nil ?_ | refine CondP.t ?_ | refine CondP.f ?_ | refine EvP.ret ?_ | refine EvP.skip ?_ | refine EvP.exit ?_ | refine EvP.block ?_ | refine EvP.scope ?_  | ((first | refine OpsP.put (v := ?_) (h1 := ?_) ?hd ?he ?_ | refine OpsP.eff (v := ?_) (h1 := ?_) ?he ?_ | refine GuardP.yes (v := ?_) (h1 := ?_) ?he ?_  | (refine DrP.put (d := ?_) (op := ?_) (t := ?_) (p := ?_) (a := ?_) (v := ?_) (h1 := ?_) ?ho ?hd ?he ?_; (case ho => rfl)) | (refine DrP.eff (op := ?_) (t := ?_) (p := ?_) (a := ?_) (v := ?_) (h1 := ?_) ?ho ?he ?_; (case ho => rfl)) | refine DGuardP.yes (v := ?_) (h1 := ?_) ?he ?_); (try case hd => rfl); (case he => intro run; ((try simp only [evOp, evA, val, vals, oval, parts, get_set, get_nil, ofArgs, ofValue, binOpE, arith, ilt, convertE, unOpE, builtinE, lenE, callV, List.nil_append, List.append_nil, Option.bind_some, Option.map_some, Nat.reduceEqDiff, reduceIte, Bool.not_true, Bool.not_false, List.getElem?_cons_zero, List.getElem?_cons_succ, List.getElem?_toArray, Array.toList, List.mapM_cons, List.mapM_nil, Option.pure_def, Option.bind_eq_bind, hcl]) <;> exact rfl)))  | ((first | refine OpsP.guard (x := ?_) (b := ?_) ?hj ?hx ?hd ?_ | (refine DrP.guard (d := ?_) (op := ?_) (t := ?_) (p := ?_) (a := ?_) (j := ?_) (w := ?_) (x := ?_) (b := ?_) ?ho ?hj ?hx ?hd ?_; (case ho => rfl)) | refine EvP.condB (c := ?_) ?hx ?_); (try case hj => rfl); (case hx => ((try simp only [val, get_set, get_nil, ofArgs, ofValue, Nat.reduceEqDiff, reduceIte, Option.map_some, hcl]) <;> exact rfl)); (try case hd => rfl)))
  refine ⟨_, rfl, ?_⟩
  simp only [oneOf, get_set, Nat.reduceEqDiff, reduceIte]
theorem long10_ok : PureOk Try.prog ov19 10 fLong := pureOk_of fun vs p hp => by
  unfold fLong at hp
  split at hp
  · rename_i cd at_
    obtain ⟨cs, hcd, e⟩ := mp hp
    subst e
    obtain ⟨r, h1, k1, rfl⟩ := long10_body cd cs hcd at_
    exact ⟨_, h1, k1, rfl⟩
  · cases hp
def ov20 : Ov := ov19.with 10 fLong
theorem ov20_ok : OvOk Try.prog ov20 := Ov.with_ok prog_ok ov19_ok long10_ok
/-! ints -/
def natOf64 : LV → Option Nat
  | .int .i64 (.ofNat x) => some x
  | _ => none
def intsOf : LV → Option (List Nat)
  | .nils => some []
  | .vs cells n => if cells.length = n ∧ n < 2 ^ 40 then cells.mapM natOf64 else none
  | _ => none
theorem mapM_nat64 : ∀ (cells : List LV) (cs : List Nat), cells.mapM natOf64 = some cs → cells = i64s cs
  | [], cs, h => by simp at h; subst h; rfl
  | c :: cells, cs, h => by
    simp only [List.mapM_cons, Option.pure_def, Option.bind_eq_bind] at h
    obtain ⟨x, h1, h⟩ := bnd h
    obtain ⟨xs, h2, h⟩ := bnd h
    cases h
    have hc : c = .int .i64 (.ofNat x) := by
      unfold natOf64 at h1
      split at h1
      · cases h1; rfl
      · cases h1
    rw [hc, mapM_nat64 cells xs h2]
    rfl
theorem intsOf_shape {cd : LV} {cs : List Nat} (h : intsOf cd = some cs) : cs.length < 2 ^ 40 ∧ ((cd = .nils ∧ cs = []) ∨ cd = .vs (i64s cs) cs.length) := by
  unfold intsOf at h
  split at h
  · cases h; exact ⟨by decide, .inl ⟨rfl, rfl⟩⟩
  · rename_i cells n
    split at h
    · rename_i hn
      have := mapM_nat64 cells cs h
      subst this
      have hl : (i64s cs).length = cs.length := by simp [i64s]
      exact ⟨by omega, .inr (by rw [← hn.1, hl])⟩
    · cases h
  · cases h
theorem ints_len {cd : LV} {cs : List Nat} (h : intsOf cd = some cs) (hp : Heap) : lenE Try.prog 24 cd hp = some (.int .i64 (.ofNat cs.length)) := by
  rcases (intsOf_shape h).2 with ⟨rfl, rfl⟩ | rfl
  · simp only [lenE, under24, lenOf?, Option.map_some]; rfl
  · simp only [lenE, under24, lenOf?, Option.map_some]
theorem ints_at {cd : LV} {cs : List Nat} (h : intsOf cd = some cs) (i : Nat) (hi : i < cs.length) :
    ∃ p, indexAddrOp Try.prog 24 cd (.int .i64 (.ofNat i)) = some p ∧ ∀ hp, loadAt Try.prog 3 p hp = some (.int .i64 (.ofNat cs[i])) := by
  rcases (intsOf_shape h).2 with ⟨rfl, rfl⟩ | rfl
  · simp at hi
  · refine ⟨.vptr ((i64s cs).drop (i * 1)), ?_, fun hp => ?_⟩
    · have h1 : Nat.blt i cs.length = true := by rw [blt_eq]; simp [hi]
      have h2 : Nat.ble (i * 1) (i64s cs).length = true := by rw [ble_eq]; simp [i64s]; omega
      simp only [indexAddrOp, asNat?, Option.bind_some, under24, sz3, h1, h2, Bool.and_self]
    · simp only [loadAt, agg3, Nat.mul_one]
      rw [List.head?_drop]
      simp [i64s, List.getElem?_eq_getElem hi]
def fInts : Pure
  | [a, b] => (intsOf a).bind fun x => (intsOf b).map fun y => (none, fun _ => .bool (listBeq x y))
  | _ => none
theorem listBeq_len : ∀ (x y : List Nat), x.length ≠ y.length → listBeq x y = false
  | [], [], h => absurd rfl h
  | [], _ :: _, _ => rfl
  | _ :: _, [], _ => rfl
  | a :: x, b :: y, h => by
    simp only [listBeq, listBeq_len x y (by simpa using h)]
    cases Nat.beq a b <;> rfl
theorem listBeq_self : ∀ (x : List Nat), listBeq x x = true
  | [] => rfl
  | a :: x => by
    have : Nat.beq a a = true := by rw [beq_eq]; simp
    simp only [listBeq, this, listBeq_self x]
theorem ints_body (a b : LV) (x y : List Nat) (ha : intsOf a = some x) (hb : intsOf b = some y) : ∃ r h1, Evc Try.prog ov20 11 [a, b] Heap.empty (r, h1) ∧ r = .bool (listBeq x y) := by
  have hla := ints_len ha
  have hlb := ints_len hb
  have hLx := (intsOf_shape ha).1
  by_cases hl : x.length = y.length
  · have e2 : Nat.beq y.length y.length = true := by rw [beq_eq]; simp
    rw [hl] at hla
    refine Evc.of rfl Try.func11 rfl rfl ?_
    have chk_ : True := by simp only [hla, hlb, ieq, e2]
    clear chk_
    repeat (first | refine EvP.seq ?_ | refine EvP.region ?_ | refine OpsP.nil ?_ | refine GuardP.no ?_ | refine DGuardP.no ?_ | refine DrP.nil ?_ | refine CondP.t ?_ | refine CondP.f ?_ | refine EvP.ret ?_ | refine EvP.skip ?_ | refine EvP.exit ?_ | refine EvP.block ?_ | refine EvP.scope ?_  | ((first | refine OpsP.put (v := ?_) (h1 := ?_) ?hd ?he ?_ | refine OpsP.eff (v := ?_) (h1 := ?_) ?he ?_ | refine GuardP.yes (v := ?_) (h1 := ?_) ?he ?_  | (refine DrP.put (d := ?_) (op := ?_) (t := ?_) (p := ?_) (a := ?_) (v := ?_) (h1 := ?_) ?ho ?hd ?he ?_; (case ho => rfl)) | (refine DrP.eff (op := ?_) (t := ?_) (p := ?_) (a := ?_) (v := ?_) (h1 := ?_) ?ho ?he ?_; (case ho => rfl)) | refine DGuardP.yes (v := ?_) (h1 := ?_) ?he ?_); (try case hd => rfl); (case he => intro run; ((try simp only [evOp, evA, val, vals, oval, parts, get_set, get_nil, ofArgs, ofValue, binOpE, arith, ilt, convertE, unOpE, builtinE, callV, List.nil_append, List.append_nil, Option.bind_some, Option.map_some, Nat.reduceEqDiff, reduceIte, Bool.not_true, Bool.not_false, List.getElem?_cons_zero, List.getElem?_cons_succ, List.getElem?_toArray, Array.toList, List.mapM_cons, List.mapM_nil, Option.pure_def, Option.bind_eq_bind, hla, hlb, ieq, e2]) <;> exact rfl)))  | ((first | refine OpsP.guard (x := ?_) (b := ?_) ?hj ?hx ?hd ?_ | (refine DrP.guard (d := ?_) (op := ?_) (t := ?_) (p := ?_) (a := ?_) (j := ?_) (w := ?_) (x := ?_) (b := ?_) ?ho ?hj ?hx ?hd ?_; (case ho => rfl)) | refine EvP.condB (c := ?_) ?hx ?_); (try case hj => rfl); (case hx => ((try simp only [val, get_set, get_nil, ofArgs, ofValue, Nat.reduceEqDiff, reduceIte, Option.map_some, hla, hlb, ieq, e2]) <;> exact rfl)); (try case hd => rfl)))
    refine EvP.loop (fun m tm h => tm.get 0 = a ∧ tm.get 1 = b ∧ tm.get 12 = .int .i64 (.ofNat y.length) ∧ ∃ i, m = y.length - i ∧ i ≤ y.length ∧ tm.get 13 = .int .i64 (.ofNat i) ∧ listBeq (x.drop i) (y.drop i) = listBeq x y) y.length ?_ ?_
    · refine ⟨?_, ?_, ?_, 0, rfl, Nat.zero_le _, ?_, rfl⟩
      · exact (by (try simp only [val, get_set, get_nil, ofArgs, ofValue, Nat.reduceEqDiff, reduceIte, Option.map_some]) <;> exact rfl)
      · exact (by (try simp only [val, get_set, get_nil, ofArgs, ofValue, Nat.reduceEqDiff, reduceIte, Option.map_some]) <;> exact rfl)
      · exact (by (try simp only [val, get_set, get_nil, ofArgs, ofValue, Nat.reduceEqDiff, reduceIte, Option.map_some]) <;> exact rfl)
      · exact (by (try simp only [val, get_set, get_nil, ofArgs, ofValue, Nat.reduceEqDiff, reduceIte, Option.map_some]) <;> exact rfl)
    · rintro m tm h ⟨h0, h1, h12, i, rfl, hi, h13, hlk⟩
      by_cases hlt : i < y.length
      · have f1 : Nat.blt i y.length = true := by rw [blt_eq]; simp; omega
        obtain ⟨p, hp, hlp⟩ := ints_at ha i (by omega)
        obtain ⟨q, hq, hlq⟩ := ints_at hb i hlt
        have da : x.drop i = x[i] :: x.drop (i + 1) := List.drop_eq_getElem_cons (by omega)
        have db : y.drop i = y[i] :: y.drop (i + 1) := List.drop_eq_getElem_cons hlt
        have chk_ : True := by simp only [h0, h1, h12, h13, f1]
        clear chk_
        repeat (first | refine EvP.seq ?_ | refine EvP.region ?_ | refine OpsP.nil ?_ | refine GuardP.no ?_ | refine DGuardP.no ?_ | refine DrP.nil ?_ | refine CondP.t ?_ | refine CondP.f ?_ | refine EvP.ret ?_ | refine EvP.skip ?_ | refine EvP.exit ?_ | refine EvP.block ?_ | refine EvP.scope ?_  | ((first | refine OpsP.put (v := ?_) (h1 := ?_) ?hd ?he ?_ | refine OpsP.eff (v := ?_) (h1 := ?_) ?he ?_ | refine GuardP.yes (v := ?_) (h1 := ?_) ?he ?_  | (refine DrP.put (d := ?_) (op := ?_) (t := ?_) (p := ?_) (a := ?_) (v := ?_) (h1 := ?_) ?ho ?hd ?he ?_; (case ho => rfl)) | (refine DrP.eff (op := ?_) (t := ?_) (p := ?_) (a := ?_) (v := ?_) (h1 := ?_) ?ho ?he ?_; (case ho => rfl)) | refine DGuardP.yes (v := ?_) (h1 := ?_) ?he ?_); (try case hd => rfl); (case he => intro run; ((try simp only [evOp, evA, val, vals, oval, parts, get_set, get_nil, ofArgs, ofValue, binOpE, arith, ilt, convertE, unOpE, builtinE, callV, List.nil_append, List.append_nil, Option.bind_some, Option.map_some, Nat.reduceEqDiff, reduceIte, Bool.not_true, Bool.not_false, List.getElem?_cons_zero, List.getElem?_cons_succ, List.getElem?_toArray, Array.toList, List.mapM_cons, List.mapM_nil, Option.pure_def, Option.bind_eq_bind, h0, h1, h12, h13, f1]) <;> exact rfl)))  | ((first | refine OpsP.guard (x := ?_) (b := ?_) ?hj ?hx ?hd ?_ | (refine DrP.guard (d := ?_) (op := ?_) (t := ?_) (p := ?_) (a := ?_) (j := ?_) (w := ?_) (x := ?_) (b := ?_) ?ho ?hj ?hx ?hd ?_; (case ho => rfl)) | refine EvP.condB (c := ?_) ?hx ?_); (try case hj => rfl); (case hx => ((try simp only [val, get_set, get_nil, ofArgs, ofValue, Nat.reduceEqDiff, reduceIte, Option.map_some, h0, h1, h12, h13, f1]) <;> exact rfl)); (try case hd => rfl)))
        refine EvP.draw (ks := [.reads, .reads, .reads, .reads, .reads, .reads, .reads, .reads, .reads]) (ms := [0, 0, 3, 7, 0, 0, 48, 112, 255]) (ord := [0, 1, 2, 3, 4, 5, 6, 7, 8]) ⟨rfl, rfl, by kernel_rfl, by kernel_rfl⟩ ?_
        have chk_ : True := by simp only [h0, h1, h12, h13, f1, hp, hlp, hq, hlq, ieq]
        clear chk_
        repeat (first | refine EvP.seq ?_ | refine EvP.region ?_ | refine OpsP.nil ?_ | refine GuardP.no ?_ | refine DGuardP.no ?_ | refine DrP.nil ?_ | refine CondP.t ?_ | refine CondP.f ?_ | refine EvP.ret ?_ | refine EvP.skip ?_ | refine EvP.exit ?_ | refine EvP.block ?_ | refine EvP.scope ?_  | ((first | refine OpsP.put (v := ?_) (h1 := ?_) ?hd ?he ?_ | refine OpsP.eff (v := ?_) (h1 := ?_) ?he ?_ | refine GuardP.yes (v := ?_) (h1 := ?_) ?he ?_  | (refine DrP.put (d := ?_) (op := ?_) (t := ?_) (p := ?_) (a := ?_) (v := ?_) (h1 := ?_) ?ho ?hd ?he ?_; (case ho => rfl)) | (refine DrP.eff (op := ?_) (t := ?_) (p := ?_) (a := ?_) (v := ?_) (h1 := ?_) ?ho ?he ?_; (case ho => rfl)) | refine DGuardP.yes (v := ?_) (h1 := ?_) ?he ?_); (try case hd => rfl); (case he => intro run; ((try simp only [evOp, evA, val, vals, oval, parts, get_set, get_nil, ofArgs, ofValue, binOpE, arith, ilt, convertE, unOpE, builtinE, callV, List.nil_append, List.append_nil, Option.bind_some, Option.map_some, Nat.reduceEqDiff, reduceIte, Bool.not_true, Bool.not_false, List.getElem?_cons_zero, List.getElem?_cons_succ, List.getElem?_toArray, Array.toList, List.mapM_cons, List.mapM_nil, Option.pure_def, Option.bind_eq_bind, h0, h1, h12, h13, f1, hp, hlp, hq, hlq, ieq]) <;> exact rfl)))  | ((first | refine OpsP.guard (x := ?_) (b := ?_) ?hj ?hx ?hd ?_ | (refine DrP.guard (d := ?_) (op := ?_) (t := ?_) (p := ?_) (a := ?_) (j := ?_) (w := ?_) (x := ?_) (b := ?_) ?ho ?hj ?hx ?hd ?_; (case ho => rfl)) | refine EvP.condB (c := ?_) ?hx ?_); (try case hj => rfl); (case hx => ((try simp only [val, get_set, get_nil, ofArgs, ofValue, Nat.reduceEqDiff, reduceIte, Option.map_some, h0, h1, h12, h13, f1, hp, hlp, hq, hlq, ieq]) <;> exact rfl)); (try case hd => rfl)))
        refine ⟨fun run => by kernel_rfl, ?_⟩
        have chk_ : True := by simp only [h0, h1, h12, h13]
        clear chk_
        repeat (first | refine EvP.seq ?_ | refine EvP.region ?_ | refine OpsP.nil ?_ | refine GuardP.no ?_ | refine DGuardP.no ?_ | refine DrP.nil ?_ | refine CondP.t ?_ | refine CondP.f ?_ | refine EvP.ret ?_ | refine EvP.skip ?_ | refine EvP.exit ?_ | refine EvP.block ?_ | refine EvP.scope ?_  | ((first | refine OpsP.put (v := ?_) (h1 := ?_) ?hd ?he ?_ | refine OpsP.eff (v := ?_) (h1 := ?_) ?he ?_ | refine GuardP.yes (v := ?_) (h1 := ?_) ?he ?_  | (refine DrP.put (d := ?_) (op := ?_) (t := ?_) (p := ?_) (a := ?_) (v := ?_) (h1 := ?_) ?ho ?hd ?he ?_; (case ho => rfl)) | (refine DrP.eff (op := ?_) (t := ?_) (p := ?_) (a := ?_) (v := ?_) (h1 := ?_) ?ho ?he ?_; (case ho => rfl)) | refine DGuardP.yes (v := ?_) (h1 := ?_) ?he ?_); (try case hd => rfl); (case he => intro run; ((try simp only [evOp, evA, val, vals, oval, parts, get_set, get_nil, ofArgs, ofValue, binOpE, arith, ilt, convertE, unOpE, builtinE, lenE, callV, List.nil_append, List.append_nil, Option.bind_some, Option.map_some, Nat.reduceEqDiff, reduceIte, Bool.not_true, Bool.not_false, List.getElem?_cons_zero, List.getElem?_cons_succ, List.getElem?_toArray, Array.toList, List.mapM_cons, List.mapM_nil, Option.pure_def, Option.bind_eq_bind, h0, h1, h12, h13]) <;> exact rfl)))  | ((first | refine OpsP.guard (x := ?_) (b := ?_) ?hj ?hx ?hd ?_ | (refine DrP.guard (d := ?_) (op := ?_) (t := ?_) (p := ?_) (a := ?_) (j := ?_) (w := ?_) (x := ?_) (b := ?_) ?ho ?hj ?hx ?hd ?_; (case ho => rfl)) | refine EvP.condB (c := ?_) ?hx ?_); (try case hj => rfl); (case hx => ((try simp only [val, get_set, get_nil, ofArgs, ofValue, Nat.reduceEqDiff, reduceIte, Option.map_some, h0, h1, h12, h13]) <;> exact rfl)); (try case hd => rfl)))
        cases hxy : Nat.beq x[i] y[i] with
        | true =>
          have chk_ : True := by simp only [h0, h1, h12, h13]
          clear chk_
          repeat (first | refine EvP.seq ?_ | refine EvP.region ?_ | refine OpsP.nil ?_ | refine GuardP.no ?_ | refine DGuardP.no ?_ | refine DrP.nil ?_ | refine CondP.t ?_ | refine CondP.f ?_ | refine EvP.ret ?_ | refine EvP.skip ?_ | refine EvP.exit ?_ | refine EvP.block ?_ | refine EvP.scope ?_  | ((first | refine OpsP.put (v := ?_) (h1 := ?_) ?hd ?he ?_ | refine OpsP.eff (v := ?_) (h1 := ?_) ?he ?_ | refine GuardP.yes (v := ?_) (h1 := ?_) ?he ?_  | (refine DrP.put (d := ?_) (op := ?_) (t := ?_) (p := ?_) (a := ?_) (v := ?_) (h1 := ?_) ?ho ?hd ?he ?_; (case ho => rfl)) | (refine DrP.eff (op := ?_) (t := ?_) (p := ?_) (a := ?_) (v := ?_) (h1 := ?_) ?ho ?he ?_; (case ho => rfl)) | refine DGuardP.yes (v := ?_) (h1 := ?_) ?he ?_); (try case hd => rfl); (case he => intro run; ((try simp only [evOp, evA, val, vals, oval, parts, get_set, get_nil, ofArgs, ofValue, binOpE, arith, ilt, convertE, unOpE, builtinE, lenE, callV, List.nil_append, List.append_nil, Option.bind_some, Option.map_some, Nat.reduceEqDiff, reduceIte, Bool.not_true, Bool.not_false, List.getElem?_cons_zero, List.getElem?_cons_succ, List.getElem?_toArray, Array.toList, List.mapM_cons, List.mapM_nil, Option.pure_def, Option.bind_eq_bind, h0, h1, h12, h13]) <;> exact rfl)))  | ((first | refine OpsP.guard (x := ?_) (b := ?_) ?hj ?hx ?hd ?_ | (refine DrP.guard (d := ?_) (op := ?_) (t := ?_) (p := ?_) (a := ?_) (j := ?_) (w := ?_) (x := ?_) (b := ?_) ?ho ?hj ?hx ?hd ?_; (case ho => rfl)) | refine EvP.condB (c := ?_) ?hx ?_); (try case hj => rfl); (case hx => ((try simp only [val, get_set, get_nil, ofArgs, ofValue, Nat.reduceEqDiff, reduceIte, Option.map_some, h0, h1, h12, h13]) <;> exact rfl)); (try case hd => rfl)))
          refine ⟨y.length - (i + 1), by omega, ?_, ?_, ?_, i + 1, rfl, by omega, ?_, ?_⟩
          · exact (by (try simp only [val, get_set, get_nil, ofArgs, ofValue, Nat.reduceEqDiff, reduceIte, Option.map_some, h0]) <;> exact rfl)
          · exact (by (try simp only [val, get_set, get_nil, ofArgs, ofValue, Nat.reduceEqDiff, reduceIte, Option.map_some, h1]) <;> exact rfl)
          · exact (by (try simp only [val, get_set, get_nil, ofArgs, ofValue, Nat.reduceEqDiff, reduceIte, Option.map_some, h12]) <;> exact rfl)
          · simp only [get_set, Nat.reduceEqDiff, reduceIte]
            rw [show Int.ofNat i + 1 = Int.ofNat (i + 1) from rfl, wrap_nat .i64 (i + 1) (by simp only [half]; omega)]
          · rw [← hlk, da, db]
            simp only [listBeq, hxy]
        | false =>
          have chk_ : True := by simp only [h0, h1, h12, h13]
          clear chk_
          repeat (first | refine EvP.seq ?_ | refine EvP.region ?_ | refine OpsP.nil ?_ | refine GuardP.no ?_ | refine DGuardP.no ?_ | refine DrP.nil ?_ | refine CondP.t ?_ | refine CondP.f ?_ | refine EvP.ret ?_ | refine EvP.skip ?_ | refine EvP.exit ?_ | refine EvP.block ?_ | refine EvP.scope ?_  | ((first | refine OpsP.put (v := ?_) (h1 := ?_) ?hd ?he ?_ | refine OpsP.eff (v := ?_) (h1 := ?_) ?he ?_ | refine GuardP.yes (v := ?_) (h1 := ?_) ?he ?_  | (refine DrP.put (d := ?_) (op := ?_) (t := ?_) (p := ?_) (a := ?_) (v := ?_) (h1 := ?_) ?ho ?hd ?he ?_; (case ho => rfl)) | (refine DrP.eff (op := ?_) (t := ?_) (p := ?_) (a := ?_) (v := ?_) (h1 := ?_) ?ho ?he ?_; (case ho => rfl)) | refine DGuardP.yes (v := ?_) (h1 := ?_) ?he ?_); (try case hd => rfl); (case he => intro run; ((try simp only [evOp, evA, val, vals, oval, parts, get_set, get_nil, ofArgs, ofValue, binOpE, arith, ilt, convertE, unOpE, builtinE, lenE, callV, List.nil_append, List.append_nil, Option.bind_some, Option.map_some, Nat.reduceEqDiff, reduceIte, Bool.not_true, Bool.not_false, List.getElem?_cons_zero, List.getElem?_cons_succ, List.getElem?_toArray, Array.toList, List.mapM_cons, List.mapM_nil, Option.pure_def, Option.bind_eq_bind, h0, h1, h12, h13]) <;> exact rfl)))  | ((first | refine OpsP.guard (x := ?_) (b := ?_) ?hj ?hx ?hd ?_ | (refine DrP.guard (d := ?_) (op := ?_) (t := ?_) (p := ?_) (a := ?_) (j := ?_) (w := ?_) (x := ?_) (b := ?_) ?ho ?hj ?hx ?hd ?_; (case ho => rfl)) | refine EvP.condB (c := ?_) ?hx ?_); (try case hj => rfl); (case hx => ((try simp only [val, get_set, get_nil, ofArgs, ofValue, Nat.reduceEqDiff, reduceIte, Option.map_some, h0, h1, h12, h13]) <;> exact rfl)); (try case hd => rfl)))
          refine ⟨_, rfl, ?_⟩
          simp only [oneOf, get_set, Nat.reduceEqDiff, reduceIte]
          rw [← hlk, da, db]
          simp only [listBeq, hxy]
      · have f1 : Nat.blt i y.length = false := by rw [blt_eq]; simp; omega
        have chk_ : True := by simp only [h0, h1, h12, h13, f1]
        clear chk_
        repeat (first | refine EvP.seq ?_ | refine EvP.region ?_ | refine OpsP.nil ?_ | refine GuardP.no ?_ | refine DGuardP.no ?_ | refine DrP.nil ?_ | refine CondP.t ?_ | refine CondP.f ?_ | refine EvP.ret ?_ | refine EvP.skip ?_ | refine EvP.exit ?_ | refine EvP.block ?_ | refine EvP.scope ?_  | ((first | refine OpsP.put (v := ?_) (h1 := ?_) ?hd ?he ?_ | refine OpsP.eff (v := ?_) (h1 := ?_) ?he ?_ | refine GuardP.yes (v := ?_) (h1 := ?_) ?he ?_  | (refine DrP.put (d := ?_) (op := ?_) (t := ?_) (p := ?_) (a := ?_) (v := ?_) (h1 := ?_) ?ho ?hd ?he ?_; (case ho => rfl)) | (refine DrP.eff (op := ?_) (t := ?_) (p := ?_) (a := ?_) (v := ?_) (h1 := ?_) ?ho ?he ?_; (case ho => rfl)) | refine DGuardP.yes (v := ?_) (h1 := ?_) ?he ?_); (try case hd => rfl); (case he => intro run; ((try simp only [evOp, evA, val, vals, oval, parts, get_set, get_nil, ofArgs, ofValue, binOpE, arith, ilt, convertE, unOpE, builtinE, callV, List.nil_append, List.append_nil, Option.bind_some, Option.map_some, Nat.reduceEqDiff, reduceIte, Bool.not_true, Bool.not_false, List.getElem?_cons_zero, List.getElem?_cons_succ, List.getElem?_toArray, Array.toList, List.mapM_cons, List.mapM_nil, Option.pure_def, Option.bind_eq_bind, h0, h1, h12, h13, f1]) <;> exact rfl)))  | ((first | refine OpsP.guard (x := ?_) (b := ?_) ?hj ?hx ?hd ?_ | (refine DrP.guard (d := ?_) (op := ?_) (t := ?_) (p := ?_) (a := ?_) (j := ?_) (w := ?_) (x := ?_) (b := ?_) ?ho ?hj ?hx ?hd ?_; (case ho => rfl)) | refine EvP.condB (c := ?_) ?hx ?_); (try case hj => rfl); (case hx => ((try simp only [val, get_set, get_nil, ofArgs, ofValue, Nat.reduceEqDiff, reduceIte, Option.map_some, h0, h1, h12, h13, f1]) <;> exact rfl)); (try case hd => rfl)))
        refine ⟨_, rfl, ?_⟩
        simp only [oneOf, get_set, Nat.reduceEqDiff, reduceIte]
        rw [← hlk, List.drop_eq_nil_of_le (by omega), List.drop_eq_nil_of_le (by omega)]
        rfl
  · have e1 : Nat.beq x.length y.length = false := by rw [beq_eq]; simp [hl]
    refine Evc.of rfl Try.func11 rfl rfl ?_
    have chk_ : True := by simp only [hla, hlb, e1, ieq]
    clear chk_
    repeat (first | refine EvP.seq ?_ | refine EvP.region ?_ | refine OpsP.nil ?_ | refine GuardP.no ?_ | refine DGuardP.no ?_ | refine DrP.nil ?_ | refine CondP.t ?_ | refine CondP.f ?_ | refine EvP.ret ?_ | refine EvP.skip ?_ | refine EvP.exit ?_ | refine EvP.block ?_ | refine EvP.scope ?_  | ((first | refine OpsP.put (v := ?_) (h1 := ?_) ?hd ?he ?_ | refine OpsP.eff (v := ?_) (h1 := ?_) ?he ?_ | refine GuardP.yes (v := ?_) (h1 := ?_) ?he ?_  | (refine DrP.put (d := ?_) (op := ?_) (t := ?_) (p := ?_) (a := ?_) (v := ?_) (h1 := ?_) ?ho ?hd ?he ?_; (case ho => rfl)) | (refine DrP.eff (op := ?_) (t := ?_) (p := ?_) (a := ?_) (v := ?_) (h1 := ?_) ?ho ?he ?_; (case ho => rfl)) | refine DGuardP.yes (v := ?_) (h1 := ?_) ?he ?_); (try case hd => rfl); (case he => intro run; ((try simp only [evOp, evA, val, vals, oval, parts, get_set, get_nil, ofArgs, ofValue, binOpE, arith, ilt, convertE, unOpE, builtinE, callV, List.nil_append, List.append_nil, Option.bind_some, Option.map_some, Nat.reduceEqDiff, reduceIte, Bool.not_true, Bool.not_false, List.getElem?_cons_zero, List.getElem?_cons_succ, List.getElem?_toArray, Array.toList, List.mapM_cons, List.mapM_nil, Option.pure_def, Option.bind_eq_bind, hla, hlb, e1, ieq]) <;> exact rfl)))  | ((first | refine OpsP.guard (x := ?_) (b := ?_) ?hj ?hx ?hd ?_ | (refine DrP.guard (d := ?_) (op := ?_) (t := ?_) (p := ?_) (a := ?_) (j := ?_) (w := ?_) (x := ?_) (b := ?_) ?ho ?hj ?hx ?hd ?_; (case ho => rfl)) | refine EvP.condB (c := ?_) ?hx ?_); (try case hj => rfl); (case hx => ((try simp only [val, get_set, get_nil, ofArgs, ofValue, Nat.reduceEqDiff, reduceIte, Option.map_some, hla, hlb, e1, ieq]) <;> exact rfl)); (try case hd => rfl)))
    refine ⟨_, rfl, ?_⟩
    simp only [oneOf, get_set, Nat.reduceEqDiff, reduceIte]
    rw [listBeq_len x y hl]
theorem ints_ok : PureOk Try.prog ov20 11 fInts := pureOk_of fun vs p hp => by
  unfold fInts at hp
  split at hp
  · rename_i a b
    obtain ⟨x, hx, hp⟩ := bnd hp
    obtain ⟨y, hy, e⟩ := mp hp
    subst e
    obtain ⟨r, h1, k1, rfl⟩ := ints_body a b x y hx hy
    exact ⟨_, h1, k1, rfl⟩
  · cases hp
def ov21 : Ov := ov20.with 11 fInts
theorem ov21_ok : OvOk Try.prog ov21 := Ov.with_ok prog_ok ov20_ok ints_ok
/-! what is called of ov21 -/
def IntsV (h : Heap) (v : LV) (l : List Nat) : Prop := ∃ v', freezeV h 10 v = some v' ∧ intsOf v' = some l
theorem call21_8 (run : Run) (h : Heap) : callE Try.prog ov21 run 8 [] h = some (.bool true, h) := rfl
theorem call21_9 (run : Run) {h : Heap} {cd : LV} {cs : List Nat} (hc : CodeV h cd cs) : callE Try.prog ov21 run 9 [cd] h = some (putGift h (startsGift cs)) := by
  obtain ⟨v, h1, h2⟩ := hc
  show pureCall fStarts _ h = _
  rw [pure1 h1]
  simp only [fStarts, h2, Option.map_some]
theorem call21_10 (run : Run) (h : Heap) {cd : LV} {cs : List Nat} (hcd : codeOf cd = some cs) (at_ : Int) : callE Try.prog ov21 run 10 [cd, .int .i64 at_] h = some (.int .i64 (.ofNat (longN cs at_)), h) := by
  obtain ⟨v, h1, h2⟩ := codeV_of hcd h
  show pureCall fLong _ h = _
  rw [pure2 h1 (rfl : freezeV h 10 (.int .i64 at_) = some (.int .i64 at_))]
  simp only [fLong, h2, Option.map_some, putGift]
theorem call21_11 (run : Run) {h : Heap} {a b : LV} {x y : List Nat} (ha : IntsV h a x) (hb : IntsV h b y) : callE Try.prog ov21 run 11 [a, b] h = some (.bool (listBeq x y), h) := by
  obtain ⟨v, h1, h2⟩ := ha
  obtain ⟨v', h1', h2'⟩ := hb
  show pureCall fInts _ h = _
  rw [pure2 h1 h1']
  simp only [fInts, h2, h2', Option.map_some, Option.bind_some, putGift]
theorem mapM_u32s : ∀ cs : List Nat, (u32s cs).mapM natOf = some cs
  | [] => rfl
  | c :: cs => by
    have h := mapM_u32s cs
    unfold u32s at h ⊢
    rw [List.map_cons, List.mapM_cons, h]
    rfl
theorem mapM_i64s : ∀ cs : List Nat, (i64s cs).mapM natOf64 = some cs
  | [] => rfl
  | c :: cs => by
    have h := mapM_i64s cs
    unfold i64s at h ⊢
    rw [List.map_cons, List.mapM_cons, h]
    rfl
theorem Own.code {h : Heap} {v : LV} {n : Nat} {cs : List Nat} (ho : Own h 1 v n (u32s cs)) (hl : n < 2 ^ 40) : CodeV h v cs := by
  have h1 := ho.len
  have hv := ho.view
  generalize hgen : u32s cs = cells at ho
  cases ho with
  | nils =>
    refine ⟨.nils, rfl, ?_⟩
    have : cs = [] := by simpa [u32s] using hgen
    subst this; rfl
  | @row b g o _ cap _ _ _ hb hn hc hcells =>
    refine ⟨.vs (u32s cs) n, ?_, ?_⟩
    · rw [freezeV_slice h 9, hv, Option.bind_some, mapM_bare h 9 _ (u32s_bare cs 8), Option.map_some]
    · simp only [codeOf]
      rw [if_pos ⟨by omega, hl⟩, mapM_u32s]
theorem Own.ints {h : Heap} {v : LV} {n : Nat} {cs : List Nat} (ho : Own h 1 v n (i64s cs)) (hl : n < 2 ^ 40) : IntsV h v cs := by
  have h1 := ho.len
  have hv := ho.view
  generalize hgen : i64s cs = cells at ho
  cases ho with
  | nils =>
    refine ⟨.nils, rfl, ?_⟩
    have : cs = [] := by simpa [i64s] using hgen
    subst this; rfl
  | @row b g o _ cap _ _ _ hb hn hc hcells =>
    refine ⟨.vs (i64s cs) n, ?_, ?_⟩
    · rw [freezeV_slice h 9, hv, Option.bind_some, mapM_bare h 9 _ (i64s_bare cs 8), Option.map_some]
    · simp only [intsOf]
      rw [if_pos ⟨by omega, hl⟩, mapM_i64s]
theorem appT24 : AppT Try.prog 24 3 (some 24) 1 8 := ⟨under24, sz3, bytes3, zerosB24, ⟨_, zero3, rfl⟩, by decide⟩
theorem appT22 : AppT Try.prog 22 36 (some 22) 1 4 := ⟨under22, sz36, by kernel_rfl, by simp only [zerosB, under22], ⟨.int .u32 0, by kernel_rfl, rfl⟩, by decide⟩
/-- What Starts gives, as a slice that may be appended to. -/
theorem startsGift_own (cs : List Nat) (h : Heap) : ∃ sl ok h', putGift h (startsGift cs) = (.tuple [sl, .bool ok], h') ∧ h.next ≤ h'.next ∧ (∀ b, b < h.next → h'.get b = h.get b) ∧ (∀ b, sl.blk = some b → h.next ≤ b ∧ b < h'.next) ∧
    match startsN cs with
    | none => ok = false ∧ sl = .nils
    | some l => ok = true ∧ Own h' 1 sl l.length (i64s l) := by
  rcases startsGift_cases cs with ⟨e, hg⟩ | ⟨e, hg⟩ | ⟨x, l, e, hg⟩
  · rw [hg, e]; exact ⟨_, _, _, rfl, Nat.le_refl _, fun _ _ => rfl, fun b hb => (by cases hb), rfl, rfl⟩
  · rw [hg, e]; exact ⟨_, _, _, rfl, Nat.le_refl _, fun _ _ => rfl, fun b hb => (by cases hb), rfl, .nils⟩
  · rw [hg, e]
    refine ⟨_, _, _, rfl, Nat.le_succ _, fun b hb => by rw [hget_new, if_neg (by omega)], fun b hb => by cases hb; exact ⟨Nat.le_refl _, Nat.lt_succ_self _⟩, rfl, ?_⟩
    refine .row (by rw [hget_new, if_pos rfl]) (by simp [i64s]) (fun c e => by cases e) ?_
    rw [List.drop_zero, List.take_of_length_le (by simp [i64s])]
end Go.Ev

namespace Go.Ev
open Go.Proofs
set_option linter.unusedSimpArgs false
set_option linter.unusedVariables false
/-! What starts gives: plain laws -/
theorem spot_row {x j : Nat} (h : spotN x = .ofNat j) : j < 113 := by
  rcases spotN_lt x with h' | ⟨i, hi, h'⟩
  · rw [h'] at h; cases h
  · rw [h'] at h; cases h; exact hi
theorem text_one {j : Nat} (hj : j < 113) (ht : (rowOfTab j).2.2.2.2.2.1 = true) : (rowOfTab j).2.2.2.2.1 = 1 := by
  obtain ⟨a, nm, c, d, e, f, g, hr, _, _, hf, _⟩ := row_data j hj
  rw [hr] at ht ⊢
  exact (hf ht).1
theorem insN_take (cs : List Nat) (K : Nat) (hK : 1 ≤ K) (h : insN cs ≠ 0) : insN (cs.take K) = if insN cs ≤ K then insN cs else 0 := by
  cases cs with
  | nil => simp [insN] at h
  | cons x r =>
    obtain ⟨K, rfl⟩ : ∃ K', K = K' + 1 := ⟨K - 1, by omega⟩
    rw [List.take_succ_cons]
    unfold insN at h ⊢
    by_cases hx : 256 ≤ x
    · simp only [if_pos hx]; rw [if_pos (by omega)]
    · simp only [if_neg hx] at h ⊢
      cases hs : spotN x with
      | negSucc j => rw [hs] at h; simp at h
      | ofNat j =>
        have hj := spot_row hs
        rw [hs] at h
        simp only at h ⊢
        by_cases h1 : r.length < (rowOfTab j).2.2.2.2.1
        · rw [if_pos h1] at h; exact absurd rfl h
        · rw [if_neg h1] at h
          simp only [if_neg h1, List.length_take]
          cases ht : (rowOfTab j).2.2.2.2.2.1 with
          | false =>
            simp only
            by_cases h2 : 1 + (rowOfTab j).2.2.2.2.1 ≤ K + 1
            · rw [if_pos h2, if_neg (by omega)]
            · rw [if_neg h2, if_pos (by omega)]
          | true =>
            rw [ht] at h
            simp only at h ⊢
            have he := text_one hj ht
            cases r with
            | nil => simp at h
            | cons y r =>
              simp only at h ⊢
              cases K with
              | zero => rw [if_pos (by simp; omega)]; split <;> (try split) <;> (try split) <;> first | rfl | omega
              | succ K =>
                rw [if_neg (by simp at h1 ⊢; omega)]
                simp only [List.take_succ_cons, List.length_cons, List.length_take] at h ⊢
                by_cases hy : 1000 < y
                · rw [if_pos hy] at h; exact absurd rfl h
                · simp only [if_neg hy] at h ⊢
                  by_cases h3 : r.length + 1 + 1 < 2 + (y + 3) / 4
                  · rw [if_pos h3] at h; exact absurd rfl h
                  · simp only [if_neg h3] at h ⊢
                    by_cases h4 : 2 + (y + 3) / 4 ≤ K + 1 + 1
                    · rw [if_pos h4, if_neg (by omega)]
                    · rw [if_neg h4, if_pos (by omega)]
theorem insN_app (cs ds : List Nat) (h : insN cs ≠ 0) : insN (cs ++ ds) = insN cs := by
  have h1 := insN_take (cs ++ ds) cs.length
  have h2 : (cs ++ ds).take cs.length = cs := by simp
  rw [h2] at h1
  cases cs with
  | nil => simp [insN] at h
  | cons x r =>
    by_cases h3 : insN (x :: r ++ ds) = 0
    · exfalso
      rw [List.cons_append] at h3
      unfold insN at h h3
      by_cases hx : 256 ≤ x
      · simp only [if_pos hx] at h3; omega
      · simp only [if_neg hx] at h h3
        cases hs : spotN x with
        | negSucc j => rw [hs] at h; simp at h
        | ofNat j =>
          have hj := spot_row hs
          rw [hs] at h h3
          simp only [List.length_append] at h h3
          by_cases h1 : r.length < (rowOfTab j).2.2.2.2.1
          · rw [if_pos h1] at h; exact absurd rfl h
          · rw [if_neg h1] at h
            rw [if_neg (by omega)] at h3
            cases ht : (rowOfTab j).2.2.2.2.2.1 with
            | false => rw [ht] at h3; simp only at h3; omega
            | true =>
              rw [ht] at h h3
              cases r with
              | nil => simp at h
              | cons y r =>
                simp only [List.cons_append, List.length_append, List.length_cons] at h h3
                by_cases hy : 1000 < y
                · rw [if_pos hy] at h; exact absurd rfl h
                · simp only [if_neg hy] at h h3
                  by_cases h4 : r.length + 1 + 1 < 2 + (y + 3) / 4
                  · rw [if_pos h4] at h; exact absurd rfl h
                  · rw [if_neg (by omega)] at h3; omega
    · have h1 := h1 (by simp) h3
      by_cases h4 : insN (x :: r ++ ds) ≤ (x :: r).length
      · rw [if_pos h4] at h1; exact h1.symm
      · rw [if_neg h4] at h1; exact absurd h1 h
theorem startsF_nil {k at_ : Nat} {cs : List Nat} (h : startsF k at_ cs = some []) : cs = [] := by
  cases cs with
  | nil => rfl
  | cons c r =>
    cases k with
    | zero => cases h
    | succ k =>
      unfold startsF at h
      split at h
      · cases h
      · obtain ⟨_, _, e⟩ := mp h; cases e
theorem startsF_cons {k at_ x : Nat} {cs rest : List Nat} (h : startsF k at_ cs = some (x :: rest)) : x = at_ ∧ ∃ n k', k = k' + 1 ∧ insN cs = n + 1 ∧ cs ≠ [] ∧ startsF k' (at_ + (n + 1)) (cs.drop (n + 1)) = some rest := by
  cases cs with
  | nil => cases k <;> cases h
  | cons c r =>
    cases k with
    | zero => cases h
    | succ k =>
      unfold startsF at h
      split at h
      · cases h
      · rename_i n hn
        obtain ⟨l, h1, e⟩ := mp h
        cases e
        exact ⟨rfl, n, k, rfl, hn, by simp, h1⟩
theorem startsF_step {k at_ n : Nat} {cs : List Nat} (hc : cs ≠ []) (hn : insN cs = n + 1) : startsF (k + 1) at_ cs = (startsF k (at_ + (n + 1)) (cs.drop (n + 1))).map (at_ :: ·) := by
  cases cs with
  | nil => exact absurd rfl hc
  | cons c r => simp only [startsF, hn, List.drop_succ_cons]
theorem startsF_zero {k at_ : Nat} {cs : List Nat} (hc : cs ≠ []) (hn : insN cs = 0) : startsF k at_ cs = none := by
  cases cs with
  | nil => exact absurd rfl hc
  | cons c r => cases k <;> simp only [startsF, hn]
theorem startsF_fuel : ∀ (k k2 at_ : Nat) (cs : List Nat), cs.length ≤ k → cs.length ≤ k2 → startsF k at_ cs = startsF k2 at_ cs
  | k, k2, at_, [], _, _ => by cases k <;> cases k2 <;> rfl
  | 0, _, _, _ :: _, h, _ => by simp at h
  | _, 0, _, _ :: _, _, h => by simp at h
  | k + 1, k2 + 1, at_, c :: r, h1, h2 => by
    cases hn : insN (c :: r) with
    | zero => rw [startsF_zero (by simp) hn, startsF_zero (by simp) hn]
    | succ n =>
      rw [startsF_step (by simp) hn, startsF_step (by simp) hn, startsF_fuel k k2 _ _ (by simp at h1 ⊢; omega) (by simp at h2 ⊢; omega)]
theorem startsF_ge : ∀ (k at_ : Nat) (cs l : List Nat), startsF k at_ cs = some l → ∀ x ∈ l, at_ ≤ x
  | k, at_, cs, [], _ => by simp
  | k, at_, cs, y :: l, h => by
    obtain ⟨rfl, n, k', rfl, _, _, h1⟩ := startsF_cons h
    intro x hx
    rcases List.mem_cons.1 hx with rfl | hx
    · exact Nat.le_refl _
    · have := startsF_ge k' _ _ l h1 x hx; omega
theorem startsF_shift : ∀ (k at_ d : Nat) (cs : List Nat), startsF k (at_ + d) cs = (startsF k at_ cs).map (·.map (· + d))
  | k, at_, d, [] => by cases k <;> rfl
  | 0, _, _, _ :: _ => rfl
  | k + 1, at_, d, c :: r => by
    cases hn : insN (c :: r) with
    | zero => rw [startsF_zero (by simp) hn, startsF_zero (by simp) hn]; rfl
    | succ n =>
      rw [startsF_step (by simp) hn, startsF_step (by simp) hn, show at_ + d + (n + 1) = at_ + (n + 1) + d by omega, startsF_shift k]
      simp only [Option.map_map]
      congr 1
theorem startsF_take : ∀ (k at_ : Nat) (cs l : List Nat), startsF k at_ cs = some l → ∀ K, K ≤ cs.length → ∀ k2, K ≤ k2 → (startsF k2 at_ (cs.take K)).isSome = (decide (at_ + K ∈ l) || decide (K = cs.length))
  | k, at_, cs, [], h => by
    have := startsF_nil h
    subst this
    intro K hK k2 _
    have : K = 0 := by simpa using hK
    subst this
    cases k2 <;> rfl
  | k, at_, cs, y :: l, h => by
    obtain ⟨rfl, n, k', rfl, hn, hc, h1⟩ := startsF_cons h
    intro K hK k2 hk2
    cases K with
    | zero => cases k2 <;> simp [startsF]
    | succ K =>
      have hlen := insN_le cs
      have ht := insN_take cs (K + 1) (by omega) (by omega)
      have hne : cs.take (K + 1) ≠ [] := by cases cs with
        | nil => exact absurd rfl hc
        | cons c r => simp
      obtain ⟨k2, rfl⟩ : ∃ k3, k2 = k3 + 1 := ⟨k2 - 1, by omega⟩
      by_cases hle : insN cs ≤ K + 1
      · rw [if_pos hle, hn] at ht
        rw [startsF_step hne ht, Option.isSome_map, List.drop_take, startsF_take k' _ _ l h1 (K + 1 - (n + 1)) (by simp; omega) k2 (by omega)]
        have e1 : y + (n + 1) + (K + 1 - (n + 1)) = y + (K + 1) := by omega
        have e2 : (K + 1 - (n + 1) = (cs.drop (n + 1)).length) ↔ (K + 1 = cs.length) := by simp; omega
        rw [e1]
        have e3 : (y + (K + 1) ∈ y :: l) ↔ (y + (K + 1) ∈ l) := by simp
        simp only [e2, e3]
      · rw [if_neg hle] at ht
        rw [startsF_zero hne ht]
        have e3 : ¬ (y + (K + 1) ∈ y :: l) := by
          intro hm
          rcases List.mem_cons.1 hm with e | hm
          · omega
          · have := startsF_ge k' _ _ l h1 _ hm; omega
        have e4 : ¬ (K + 1 = cs.length) := by omega
        simp [e3, e4]
theorem startsF_app : ∀ (k at_ : Nat) (cs l : List Nat), startsF k at_ cs = some l → ∀ (ds : List Nat) (k2 k3 : Nat), cs.length + ds.length ≤ k2 → ds.length ≤ k3 → startsF k2 at_ (cs ++ ds) = (startsF k3 (at_ + cs.length) ds).map (l ++ ·)
  | k, at_, cs, [], h => by
    have := startsF_nil h
    subst this
    intro ds k2 k3 h2 h3
    simp only [List.nil_append, List.length_nil, Nat.add_zero]
    rw [startsF_fuel k2 k3 _ _ (by simpa using h2) h3]
    cases startsF k3 at_ ds <;> rfl
  | k, at_, cs, y :: l, h => by
    obtain ⟨rfl, n, k', rfl, hn, hc, h1⟩ := startsF_cons h
    intro ds k2 k3 h2 h3
    have hlen := insN_le cs
    have hx := insN_app cs ds (by omega)
    have hpos : 0 < cs.length := by cases cs with
      | nil => exact absurd rfl hc
      | cons c r => simp
    obtain ⟨k2, rfl⟩ : ∃ k3, k2 = k3 + 1 := ⟨k2 - 1, by omega⟩
    rw [startsF_step (by simp [hc]) (hx.trans hn), List.drop_append_of_le_length (by omega), startsF_app k' _ _ l h1 ds k2 k3 (by simp; omega) h3]
    rw [show y + (n + 1) + (cs.drop (n + 1)).length = y + cs.length by simp; omega]
    simp only [Option.map_map]
    congr 1
/-- Cut anywhere. -/
theorem startsN_take {cs l : List Nat} (h : startsN cs = some l) (K : Nat) (hK : K ≤ cs.length) : (startsN (cs.take K)).isSome = (decide (K ∈ l) || decide (K = cs.length)) := by
  have := startsF_take _ _ _ _ h K hK (cs.take K).length (by simp; omega)
  simpa [startsN] using this
/-- Code behind code. -/
theorem startsN_app {cs l : List Nat} (h : startsN cs = some l) (ds : List Nat) : startsN (cs ++ ds) = (startsN ds).map fun y => l ++ y.map (· + cs.length) := by
  have := startsF_app _ _ _ _ h ds (cs ++ ds).length ds.length (by simp) (Nat.le_refl _)
  unfold startsN
  rw [this, Nat.zero_add, show startsF ds.length cs.length ds = startsF ds.length (0 + cs.length) ds by rw [Nat.zero_add], startsF_shift, Option.map_map]
  rfl
end Go.Ev
