/-
  What the document's own list, Get, Named, Long, Starts, Right of a word, and start compute, walked by the evaluator; no conditions.
-/
import Derived.Test.YtmgmglfdoffggaaPrG
import Derived.Test.YtmgmglfdoffggaaPrE
import Derived.Test.YtmgmglfdoffggaaEvC
namespace Go.Ev
open Go.Proofs
set_option linter.unusedSimpArgs false
set_option linter.unusedVariables false
set_option maxHeartbeats 4000000
/-! the document's own list -/
theorem allR_ok : PureOk Try.prog ov23 21 fAll := pureOk_run fun vs p hp => by
  cases vs with
  | nil => cases hp; exact ⟨400, by kernel_rfl⟩
  | cons _ _ => cases hp
def ov24 : Ov := ov23.with 21 fAll
theorem ov24_ok : OvOk Try.prog ov24 := Ov.with_ok prog_ok ov23_ok allR_ok
end Go.Ev

namespace Go.Ev
open Go.Proofs
set_option linter.unusedSimpArgs false
set_option linter.unusedVariables false
set_option maxHeartbeats 4000000
theorem call24_21 (run : Run) (h : Heap) : callE Try.prog ov24 run 21 [] h = some (.slice h.next 112 0 113 none 7, (h.new (.row tabCells 112 7)).2) := rfl
/-- The first row that has a number. -/
theorem spot_first (n i : Nat) (h : spotN n = .ofNat i) : (rowOfTab i).1 = n ∧ ∀ j, j < i → (rowOfTab j).1 ≠ n := by
  have hi := spot_row h
  have hr : (rowOfTab i).1 = n := by
    unfold spotN at h
    rw [num_spot i hi]
    split at h
    · cases h; rw [if_pos (by omega)]; omega
    · split at h
      · cases h; rw [if_neg (by omega)]; omega
      · cases h
  refine ⟨hr, fun j hj e => ?_⟩
  rw [num_spot j (by omega)] at e
  rw [num_spot i hi] at hr
  split at e <;> split at hr <;> omega
theorem spot_not (n : Nat) (h : spotN n = -1) : ∀ j, j < 113 → (rowOfTab j).1 ≠ n := by
  intro j hj e
  rw [num_spot j hj] at e
  unfold spotN at h
  split at h
  · cases h
  · split at h
    · cases h
    · rename_i h1 h2
      split at e <;> omega
theorem build39' : buildAt Try.prog 39 [] = some (.agg noRow) := build39
theorem getR_body (n : Nat) : ∃ r h1, Evc Try.prog ov24 14 [.int .u32 (.ofNat n)] Heap.empty (r, h1) ∧ r = getN n := by
  have htab : ∀ (h : Heap), h.get 1 = some (.row tabCells 112 7) → ∀ i, i < 113 → loadAt Try.prog 36 (.ptr 1 112 (i * 7 + 0)) h = some (.int .u32 (.ofNat (rowOfTab i).1)) := fun h hh i hi => by
    have e2 : Nat.ble (i * 7 + 0 + 1) tabCells.length = true := by rw [ble_eq, tab_len]; simp; omega
    have hr : ((tabCells.drop (i * 7)).take 1) = [.int .u32 (.ofNat (rowOfTab i).1)] := by
      have h1 : (rowAt i).take 1 = [.int .u32 (.ofNat (rowOfTab i).1)] := by rw [rowAt_eq i hi]; rfl
      rw [← h1, rowAt, List.take_take]
      rfl
    simp only [loadAt, agg36, readN, hh, isHi, Nat.beq, e2, Bool.and_self, Nat.add_zero, hr, Option.bind_some, List.head?]
  have htab39 : ∀ (h : Heap), h.get 1 = some (.row tabCells 112 7) → ∀ i, i < 113 → loadAt Try.prog 39 (.ptr 1 112 (i * 7)) h = some (.agg (rowAt i)) := fun h hh i hi => by
    have e2 : Nat.ble (i * 7 + 7) tabCells.length = true := by rw [ble_eq, tab_len]; simp; omega
    simp only [loadAt, agg39, sz39, Option.bind_some, readN, hh, isHi, Nat.beq, e2, Bool.and_self, Option.map_some, rowAt]
  have ln : ∀ (h : Heap), lenE Try.prog 43 (.slice 1 112 0 113 none 7) h = some (.int .i64 (.ofNat 113)) := fun h => by
    have hu : Try.prog.underlying 43 = some (.slice 39) := by kernel_rfl
    simp only [lenE, hu, lenOf?, Option.map_some]
  refine Evc.of rfl Try.func14 rfl rfl ?_
  have chk_ : True := by simp only [zero39, LV.cells, putNew_eq, hnext_empty, call24_21, hnext_new]
  clear chk_
  repeat (first | refine EvP.seq ?_ | refine EvP.region ?_ | refine OpsP.nil ?_ | refine GuardP.no ?_ | refine DGuardP.no ?_ | refine DrP.nil ?_ | refine CondP.t ?_ | refine CondP.f ?_ | refine EvP.ret ?_ | refine EvP.skip ?_ | refine EvP.exit ?_ | refine EvP.block ?_ | refine EvP.scope ?_  | ((first | refine OpsP.put (v := ?_) (h1 := ?_) ?hd ?he ?_ | refine OpsP.eff (v := ?_) (h1 := ?_) ?he ?_ | refine GuardP.yes (v := ?_) (h1 := ?_) ?he ?_  | (refine DrP.put (d := ?_) (op := ?_) (t := ?_) (p := ?_) (a := ?_) (v := ?_) (h1 := ?_) ?ho ?hd ?he ?_; (case ho => rfl)) | (refine DrP.eff (op := ?_) (t := ?_) (p := ?_) (a := ?_) (v := ?_) (h1 := ?_) ?ho ?he ?_; (case ho => rfl)) | refine DGuardP.yes (v := ?_) (h1 := ?_) ?he ?_); (try case hd => rfl); (case he => intro run; ((try simp only [evOp, evA, val, vals, oval, parts, get_set, get_nil, ofArgs, ofValue, binOpE, arith, ilt, convertE, unOpE, builtinE, lenE, callV, List.nil_append, List.append_nil, Option.bind_some, Option.map_some, Nat.reduceEqDiff, reduceIte, Bool.not_true, Bool.not_false, List.getElem?_cons_zero, List.getElem?_cons_succ, List.getElem?_toArray, Array.toList, List.mapM_cons, List.mapM_nil, Option.pure_def, Option.bind_eq_bind, zero39, LV.cells, putNew_eq, hnext_empty, call24_21, hnext_new]) <;> exact rfl)))  | ((first | refine OpsP.guard (x := ?_) (b := ?_) ?hj ?hx ?hd ?_ | (refine DrP.guard (d := ?_) (op := ?_) (t := ?_) (p := ?_) (a := ?_) (j := ?_) (w := ?_) (x := ?_) (b := ?_) ?ho ?hj ?hx ?hd ?_; (case ho => rfl)) | refine EvP.condB (c := ?_) ?hx ?_); (try case hj => rfl); (case hx => ((try simp only [val, get_set, get_nil, ofArgs, ofValue, Nat.reduceEqDiff, reduceIte, Option.map_some, zero39, LV.cells, putNew_eq, hnext_empty, call24_21, hnext_new]) <;> exact rfl)); (try case hd => rfl)))
  refine EvP.loop (fun m tm h => h = ((Heap.empty.new (.row noRow 0 0)).2.new (.row tabCells 112 7)).2 ∧ tm.get 0 = .int .u32 (.ofNat n) ∧ tm.get 2 = .ptr 0 0 0 ∧ tm.get 4 = .slice 1 112 0 113 none 7 ∧ ∃ i, m = 113 - i ∧ i ≤ 113 ∧ tm.get 5 = .int .i64 (.ofNat i) ∧ ∀ j, j < i → (rowOfTab j).1 ≠ n) 113 ?_ ?_
  · refine ⟨rfl, ?_, ?_, ?_, 0, rfl, by omega, ?_, fun j hj => by omega⟩
    · exact (by (try simp only [val, get_set, get_nil, ofArgs, ofValue, Nat.reduceEqDiff, reduceIte, Option.map_some]) <;> exact rfl)
    · exact (by (try simp only [val, get_set, get_nil, ofArgs, ofValue, Nat.reduceEqDiff, reduceIte, Option.map_some]) <;> exact rfl)
    · exact (by (try simp only [val, get_set, get_nil, ofArgs, ofValue, Nat.reduceEqDiff, reduceIte, Option.map_some]) <;> exact rfl)
    · exact (by (try simp only [val, get_set, get_nil, ofArgs, ofValue, Nat.reduceEqDiff, reduceIte, Option.map_some]) <;> exact rfl)
  · rintro m tm h ⟨hh, h0, h2, h4, i, rfl, hi, h5, hno⟩
    have hg1 : h.get 1 = some (.row tabCells 112 7) := by rw [hh, hget_new, hnext_new, hnext_empty, if_pos rfl]
    have hg0 : h.get 0 = some (.row noRow 0 0) := by rw [hh, hget_new, hnext_new, hnext_empty, if_neg (by omega), hget_new, hnext_empty, if_pos rfl]
    by_cases hlt : i < 113
    · have f1 : Nat.blt i 113 = true := by rw [blt_eq]; simp [hlt]
      have l0 := htab h hg1 i hlt
      have l1 := htab39 h hg1 i hlt
      have hr := rowAt_ok i hlt
      cases hq : Nat.beq (rowOfTab i).1 n with
      | true =>
        have st : storeAt Try.prog 39 (.ptr 0 0 0) (.agg (rowAt i)) h = some (h.set 0 (.row (rowAt i) 0 0)) := store_fresh hg0 rfl hr.1 hr.2.1
        have ld : loadAt Try.prog 39 (.ptr 0 0 0) (h.set 0 (.row (rowAt i) 0 0)) = some (.agg (rowAt i)) := load_row (by simp only [hget_set, reduceIte]) hr.1
        have chk_ : True := by simp only [h0, h2, h4, h5, ln, f1, ia43 1 112 i 113 hlt none, fa39_0, l0, ieq, hq, l1, st]
        clear chk_
        repeat (first | refine EvP.seq ?_ | refine EvP.region ?_ | refine OpsP.nil ?_ | refine GuardP.no ?_ | refine DGuardP.no ?_ | refine DrP.nil ?_ | refine CondP.t ?_ | refine CondP.f ?_ | refine EvP.ret ?_ | refine EvP.skip ?_ | refine EvP.exit ?_ | refine EvP.block ?_ | refine EvP.scope ?_  | ((first | refine OpsP.put (v := ?_) (h1 := ?_) ?hd ?he ?_ | refine OpsP.eff (v := ?_) (h1 := ?_) ?he ?_ | refine GuardP.yes (v := ?_) (h1 := ?_) ?he ?_  | (refine DrP.put (d := ?_) (op := ?_) (t := ?_) (p := ?_) (a := ?_) (v := ?_) (h1 := ?_) ?ho ?hd ?he ?_; (case ho => rfl)) | (refine DrP.eff (op := ?_) (t := ?_) (p := ?_) (a := ?_) (v := ?_) (h1 := ?_) ?ho ?he ?_; (case ho => rfl)) | refine DGuardP.yes (v := ?_) (h1 := ?_) ?he ?_); (try case hd => rfl); (case he => intro run; ((try simp only [evOp, evA, val, vals, oval, parts, get_set, get_nil, ofArgs, ofValue, binOpE, arith, ilt, convertE, unOpE, builtinE, callV, List.nil_append, List.append_nil, Option.bind_some, Option.map_some, Nat.reduceEqDiff, reduceIte, Bool.not_true, Bool.not_false, List.getElem?_cons_zero, List.getElem?_cons_succ, List.getElem?_toArray, Array.toList, List.mapM_cons, List.mapM_nil, Option.pure_def, Option.bind_eq_bind, h0, h2, h4, h5, ln, f1, ia43 1 112 i 113 hlt none, fa39_0, l0, ieq, hq, l1, st]) <;> exact rfl)))  | ((first | refine OpsP.guard (x := ?_) (b := ?_) ?hj ?hx ?hd ?_ | (refine DrP.guard (d := ?_) (op := ?_) (t := ?_) (p := ?_) (a := ?_) (j := ?_) (w := ?_) (x := ?_) (b := ?_) ?ho ?hj ?hx ?hd ?_; (case ho => rfl)) | refine EvP.condB (c := ?_) ?hx ?_); (try case hj => rfl); (case hx => ((try simp only [val, get_set, get_nil, ofArgs, ofValue, Nat.reduceEqDiff, reduceIte, Option.map_some, h0, h2, h4, h5, ln, f1, ia43 1 112 i 113 hlt none, fa39_0, l0, ieq, hq, l1, st]) <;> exact rfl)); (try case hd => rfl)))
        refine ⟨[.agg (rowAt i), .bool true], ?_, ?_⟩
        · show resultsE Try.prog _ _ [.cell 2 39, .tmp 3] = _
          simp only [resultsE, get_set, Nat.reduceEqDiff, reduceIte, h2, ld, Option.bind_some, Option.map_some]
        · rw [beq_eq, decide_eq_true_iff] at hq
          have hs : spotN n = .ofNat i := by
            rcases spotN_lt n with hs | ⟨j, hj, hs⟩
            · exact absurd hq (spot_not n hs i hlt)
            · obtain ⟨k1, k2⟩ := spot_first n j hs
              have : j = i := by
                rcases Nat.lt_trichotomy i j with h | h | h
                · exact absurd hq (k2 i h)
                · exact h.symm
                · exact absurd k1 (hno j h)
              rw [hs, this]
          rw [getN_of n i hs]
          rfl
      | false =>
        have chk_ : True := by simp only [h0, h2, h4, h5, ln, f1, ia43 1 112 i 113 hlt none, fa39_0, l0, ieq, hq]
        clear chk_
        repeat (first | refine EvP.seq ?_ | refine EvP.region ?_ | refine OpsP.nil ?_ | refine GuardP.no ?_ | refine DGuardP.no ?_ | refine DrP.nil ?_ | refine CondP.t ?_ | refine CondP.f ?_ | refine EvP.ret ?_ | refine EvP.skip ?_ | refine EvP.exit ?_ | refine EvP.block ?_ | refine EvP.scope ?_  | ((first | refine OpsP.put (v := ?_) (h1 := ?_) ?hd ?he ?_ | refine OpsP.eff (v := ?_) (h1 := ?_) ?he ?_ | refine GuardP.yes (v := ?_) (h1 := ?_) ?he ?_  | (refine DrP.put (d := ?_) (op := ?_) (t := ?_) (p := ?_) (a := ?_) (v := ?_) (h1 := ?_) ?ho ?hd ?he ?_; (case ho => rfl)) | (refine DrP.eff (op := ?_) (t := ?_) (p := ?_) (a := ?_) (v := ?_) (h1 := ?_) ?ho ?he ?_; (case ho => rfl)) | refine DGuardP.yes (v := ?_) (h1 := ?_) ?he ?_); (try case hd => rfl); (case he => intro run; ((try simp only [evOp, evA, val, vals, oval, parts, get_set, get_nil, ofArgs, ofValue, binOpE, arith, ilt, convertE, unOpE, builtinE, callV, List.nil_append, List.append_nil, Option.bind_some, Option.map_some, Nat.reduceEqDiff, reduceIte, Bool.not_true, Bool.not_false, List.getElem?_cons_zero, List.getElem?_cons_succ, List.getElem?_toArray, Array.toList, List.mapM_cons, List.mapM_nil, Option.pure_def, Option.bind_eq_bind, h0, h2, h4, h5, ln, f1, ia43 1 112 i 113 hlt none, fa39_0, l0, ieq, hq]) <;> exact rfl)))  | ((first | refine OpsP.guard (x := ?_) (b := ?_) ?hj ?hx ?hd ?_ | (refine DrP.guard (d := ?_) (op := ?_) (t := ?_) (p := ?_) (a := ?_) (j := ?_) (w := ?_) (x := ?_) (b := ?_) ?ho ?hj ?hx ?hd ?_; (case ho => rfl)) | refine EvP.condB (c := ?_) ?hx ?_); (try case hj => rfl); (case hx => ((try simp only [val, get_set, get_nil, ofArgs, ofValue, Nat.reduceEqDiff, reduceIte, Option.map_some, h0, h2, h4, h5, ln, f1, ia43 1 112 i 113 hlt none, fa39_0, l0, ieq, hq]) <;> exact rfl)); (try case hd => rfl)))
        refine ⟨113 - (i + 1), by omega, ?_, ?_, ?_, ?_, i + 1, rfl, by omega, ?_, ?_⟩
        · exact hh
        · exact (by (try simp only [val, get_set, get_nil, ofArgs, ofValue, Nat.reduceEqDiff, reduceIte, Option.map_some, h0]) <;> exact rfl)
        · exact (by (try simp only [val, get_set, get_nil, ofArgs, ofValue, Nat.reduceEqDiff, reduceIte, Option.map_some, h2]) <;> exact rfl)
        · exact (by (try simp only [val, get_set, get_nil, ofArgs, ofValue, Nat.reduceEqDiff, reduceIte, Option.map_some, h4]) <;> exact rfl)
        · simp only [get_set, Nat.reduceEqDiff, reduceIte]
          rw [show Int.ofNat i + 1 = Int.ofNat (i + 1) from rfl, wrap_nat .i64 (i + 1) (by simp only [half]; omega)]
        · intro j hj
          rw [beq_eq, decide_eq_false_iff_not] at hq
          rcases Nat.lt_succ_iff_lt_or_eq.1 hj with h | rfl
          · exact hno j h
          · exact hq
    · have f1 : Nat.blt 113 113 = false := rfl
      have : i = 113 := by omega
      subst this
      have st : storeAt Try.prog 39 (.ptr 0 0 0) (.agg noRow) h = some (h.set 0 (.row noRow 0 0)) := store_fresh hg0 rfl rfl rfl
      have ld : loadAt Try.prog 39 (.ptr 0 0 0) (h.set 0 (.row noRow 0 0)) = some (.agg noRow) := load_row (by simp only [hget_set, reduceIte]) rfl
      have chk_ : True := by simp only [h0, h2, h4, h5, ln, f1, build39, st]
      clear chk_
      repeat (first | refine EvP.seq ?_ | refine EvP.region ?_ | refine OpsP.nil ?_ | refine GuardP.no ?_ | refine DGuardP.no ?_ | refine DrP.nil ?_ | refine CondP.t ?_ | refine CondP.f ?_ | refine EvP.ret ?_ | refine EvP.skip ?_ | refine EvP.exit ?_ | refine EvP.block ?_ | refine EvP.scope ?_  | ((first | refine OpsP.put (v := ?_) (h1 := ?_) ?hd ?he ?_ | refine OpsP.eff (v := ?_) (h1 := ?_) ?he ?_ | refine GuardP.yes (v := ?_) (h1 := ?_) ?he ?_  | (refine DrP.put (d := ?_) (op := ?_) (t := ?_) (p := ?_) (a := ?_) (v := ?_) (h1 := ?_) ?ho ?hd ?he ?_; (case ho => rfl)) | (refine DrP.eff (op := ?_) (t := ?_) (p := ?_) (a := ?_) (v := ?_) (h1 := ?_) ?ho ?he ?_; (case ho => rfl)) | refine DGuardP.yes (v := ?_) (h1 := ?_) ?he ?_); (try case hd => rfl); (case he => intro run; ((try simp only [evOp, evA, val, vals, oval, parts, get_set, get_nil, ofArgs, ofValue, binOpE, arith, ilt, convertE, unOpE, builtinE, callV, List.nil_append, List.append_nil, Option.bind_some, Option.map_some, Nat.reduceEqDiff, reduceIte, Bool.not_true, Bool.not_false, List.getElem?_cons_zero, List.getElem?_cons_succ, List.getElem?_toArray, Array.toList, List.mapM_cons, List.mapM_nil, Option.pure_def, Option.bind_eq_bind, h0, h2, h4, h5, ln, f1, build39, st]) <;> exact rfl)))  | ((first | refine OpsP.guard (x := ?_) (b := ?_) ?hj ?hx ?hd ?_ | (refine DrP.guard (d := ?_) (op := ?_) (t := ?_) (p := ?_) (a := ?_) (j := ?_) (w := ?_) (x := ?_) (b := ?_) ?ho ?hj ?hx ?hd ?_; (case ho => rfl)) | refine EvP.condB (c := ?_) ?hx ?_); (try case hj => rfl); (case hx => ((try simp only [val, get_set, get_nil, ofArgs, ofValue, Nat.reduceEqDiff, reduceIte, Option.map_some, h0, h2, h4, h5, ln, f1, build39, st]) <;> exact rfl)); (try case hd => rfl)))
      refine ⟨[.agg noRow, .bool false], ?_, ?_⟩
      · show resultsE Try.prog _ _ [.cell 2 39, .tmp 3] = _
        simp only [resultsE, get_set, Nat.reduceEqDiff, reduceIte, h2, ld, Option.bind_some, Option.map_some]
      · rcases spotN_lt n with hs | ⟨j, hj, hs⟩
        · unfold getN; rw [hs]; rfl
        · exact absurd (spot_first n j hs).1 (hno j hj)
theorem getR_ok : PureOk Try.prog ov24 14 fGet := pureOk_of fun vs p hp => by
  unfold fGet at hp
  split at hp
  · rename_i n
    cases hp
    obtain ⟨r, h1, k1, rfl⟩ := getR_body n
    refine ⟨_, h1, k1, ?_⟩
    have hb : bareV 10 (getN n) = true := by
      unfold getN
      rcases spotN_lt n with hn | ⟨i, hi, hn⟩
      · rw [hn]; rfl
      · have hr := (rowAt_ok i hi).2.2
        rw [hn]
        rw [if_pos (by exact Int.natCast_nonneg i)]
        have : bareV 9 (.agg (rowAt i)) = true := by
          show (rowAt i).all (bareV 8) = true
          exact (rowAt_bare i hi)
        show (bareV 9 (.agg (rowAt i)) && (bareV 9 (.bool true) && true)) = true
        rw [this]; rfl
    simp only [giftE, hb]
  · cases hp
def ov25 : Ov := ov24.with 14 fGet
theorem ov25_ok : OvOk Try.prog ov25 := Ov.with_ok prog_ok ov24_ok getR_ok
end Go.Ev

namespace Go.Ev
open Go.Proofs
set_option linter.unusedSimpArgs false
set_option linter.unusedVariables false
set_option maxHeartbeats 4000000
theorem call25_21 (run : Run) (h : Heap) : callE Try.prog ov25 run 21 [] h = some (.slice h.next 112 0 113 none 7, (h.new (.row tabCells 112 7)).2) := rfl
theorem call25_32 (run : Run) (h : Heap) (a b : List Nat) (ha : strOk a) (hb : strOk b) : callE Try.prog ov25 run 32 [.str a, .str b] h = some (.bool (likeL a b), h) := by
  show ((fAlikeR [.str a, .str b]).map (putGift h)) = _
  have : fAlikeR [.str a, .str b] = some (none, fun _ => .bool (likeL a b)) := by
    show (if (a.all (· < 256) && b.all (· < 256)) = true ∧ a.length < 2 ^ 62 ∧ b.length < 2 ^ 62 then some (none, fun _ => .bool (likeL a b)) else none : Option Gift) = _
    have hc : (a.all (· < 256) && b.all (· < 256)) = true := by
      rw [Bool.and_eq_true, List.all_eq_true, List.all_eq_true]
      exact ⟨fun x hx => by simpa using ha.1 x hx, fun x hx => by simpa using hb.1 x hx⟩
    rw [if_pos ⟨hc, ha.2, hb.2⟩]
  rw [this]
  rfl
theorem name_ok (i : Nat) (hi : i < 113) : strOk (rowOfTab i).2.1 := ⟨fun x hx => by simpa using List.all_eq_true.1 (names_ok i hi).1 x hx, (names_ok i hi).2⟩
theorem namedR_body (s : List Nat) (hs : strOk s) : ∃ r h1, Evc Try.prog ov25 16 [.str s] Heap.empty (r, h1) ∧ r = rowN (nmFrom s tab 0) := by
  have htab : ∀ (h : Heap), h.get 1 = some (.row tabCells 112 7) → ∀ i, i < 113 → loadAt Try.prog 9 (.ptr 1 112 (i * 7 + 1)) h = some (.str (rowOfTab i).2.1) := fun h hh i hi => by
    have e2 : Nat.ble (i * 7 + 1 + 1) tabCells.length = true := by rw [ble_eq]; rw [tab_len]; simp; omega
    have hr : ((tabCells.drop (i * 7 + 1)).take 1) = [.str (rowOfTab i).2.1] := by
      have h1 : ((rowAt i).drop 1).take 1 = [.str (rowOfTab i).2.1] := by rw [rowAt_eq i hi]; rfl
      rw [← h1, rowAt, List.drop_take, List.drop_drop, List.take_take]
      rfl
    simp only [loadAt, agg9, readN, hh, isHi, Nat.beq, e2, Bool.and_self, hr, Option.bind_some, List.head?]
  have htab39 : ∀ (h : Heap), h.get 1 = some (.row tabCells 112 7) → ∀ i, i < 113 → loadAt Try.prog 39 (.ptr 1 112 (i * 7)) h = some (.agg (rowAt i)) := fun h hh i hi => by
    have e2 : Nat.ble (i * 7 + 7) tabCells.length = true := by rw [ble_eq, tab_len]; simp; omega
    simp only [loadAt, agg39, sz39, Option.bind_some, readN, hh, isHi, Nat.beq, e2, Bool.and_self, Option.map_some, rowAt]
  have ln : ∀ (h : Heap), lenE Try.prog 43 (.slice 1 112 0 113 none 7) h = some (.int .i64 (.ofNat 113)) := fun h => by
    have hu : Try.prog.underlying 43 = some (.slice 39) := by kernel_rfl
    simp only [lenE, hu, lenOf?, Option.map_some]
  refine Evc.of rfl Try.func16 rfl rfl ?_
  have chk_ : True := by simp only [zero39, LV.cells, putNew_eq, hnext_empty, call25_21, hnext_new]
  clear chk_
  repeat (first | refine EvP.seq ?_ | refine EvP.region ?_ | refine OpsP.nil ?_ | refine GuardP.no ?_ | refine DGuardP.no ?_ | refine DrP.nil ?_ | refine CondP.t ?_ | refine CondP.f ?_ | refine EvP.ret ?_ | refine EvP.skip ?_ | refine EvP.exit ?_ | refine EvP.block ?_ | refine EvP.scope ?_  | ((first | refine OpsP.put (v := ?_) (h1 := ?_) ?hd ?he ?_ | refine OpsP.eff (v := ?_) (h1 := ?_) ?he ?_ | refine GuardP.yes (v := ?_) (h1 := ?_) ?he ?_  | (refine DrP.put (d := ?_) (op := ?_) (t := ?_) (p := ?_) (a := ?_) (v := ?_) (h1 := ?_) ?ho ?hd ?he ?_; (case ho => rfl)) | (refine DrP.eff (op := ?_) (t := ?_) (p := ?_) (a := ?_) (v := ?_) (h1 := ?_) ?ho ?he ?_; (case ho => rfl)) | refine DGuardP.yes (v := ?_) (h1 := ?_) ?he ?_); (try case hd => rfl); (case he => intro run; ((try simp only [evOp, evA, val, vals, oval, parts, get_set, get_nil, ofArgs, ofValue, binOpE, arith, ilt, convertE, unOpE, builtinE, lenE, callV, List.nil_append, List.append_nil, Option.bind_some, Option.map_some, Nat.reduceEqDiff, reduceIte, Bool.not_true, Bool.not_false, List.getElem?_cons_zero, List.getElem?_cons_succ, List.getElem?_toArray, Array.toList, List.mapM_cons, List.mapM_nil, Option.pure_def, Option.bind_eq_bind, zero39, LV.cells, putNew_eq, hnext_empty, call25_21, hnext_new]) <;> exact rfl)))  | ((first | refine OpsP.guard (x := ?_) (b := ?_) ?hj ?hx ?hd ?_ | (refine DrP.guard (d := ?_) (op := ?_) (t := ?_) (p := ?_) (a := ?_) (j := ?_) (w := ?_) (x := ?_) (b := ?_) ?ho ?hj ?hx ?hd ?_; (case ho => rfl)) | refine EvP.condB (c := ?_) ?hx ?_); (try case hj => rfl); (case hx => ((try simp only [val, get_set, get_nil, ofArgs, ofValue, Nat.reduceEqDiff, reduceIte, Option.map_some, zero39, LV.cells, putNew_eq, hnext_empty, call25_21, hnext_new]) <;> exact rfl)); (try case hd => rfl)))
  refine EvP.loop (fun m tm h => h = ((Heap.empty.new (.row noRow 0 0)).2.new (.row tabCells 112 7)).2 ∧ tm.get 0 = .str s ∧ tm.get 2 = .ptr 0 0 0 ∧ tm.get 4 = .slice 1 112 0 113 none 7 ∧ ∃ i, m = 113 - i ∧ i ≤ 113 ∧ tm.get 5 = .int .i64 (.ofNat i) ∧ nmFrom s (tab.drop i) i = nmFrom s tab 0) 113 ?_ ?_
  · refine ⟨rfl, ?_, ?_, ?_, 0, rfl, by omega, ?_, rfl⟩
    · exact (by (try simp only [val, get_set, get_nil, ofArgs, ofValue, Nat.reduceEqDiff, reduceIte, Option.map_some]) <;> exact rfl)
    · exact (by (try simp only [val, get_set, get_nil, ofArgs, ofValue, Nat.reduceEqDiff, reduceIte, Option.map_some]) <;> exact rfl)
    · exact (by (try simp only [val, get_set, get_nil, ofArgs, ofValue, Nat.reduceEqDiff, reduceIte, Option.map_some]) <;> exact rfl)
    · exact (by (try simp only [val, get_set, get_nil, ofArgs, ofValue, Nat.reduceEqDiff, reduceIte, Option.map_some]) <;> exact rfl)
  · rintro m tm h ⟨hh, h0, h2, h4, i, rfl, hi, h5, hnm⟩
    have hg1 : h.get 1 = some (.row tabCells 112 7) := by rw [hh, hget_new, hnext_new, hnext_empty, if_pos rfl]
    have hg0 : h.get 0 = some (.row noRow 0 0) := by rw [hh, hget_new, hnext_new, hnext_empty, if_neg (by omega), hget_new, hnext_empty, if_pos rfl]
    by_cases hlt : i < 113
    · have f1 : Nat.blt i 113 = true := by rw [blt_eq]; simp [hlt]
      have l0 := htab h hg1 i hlt
      have l1 := htab39 h hg1 i hlt
      have hr := rowAt_ok i hlt
      have hc := fun run h => call25_32 run h _ _ (name_ok i hlt) hs
      rw [tab_drop i hlt] at hnm
      simp only [nmFrom] at hnm
      cases hq : likeL (rowOfTab i).2.1 s with
      | true =>
        rw [hq] at hnm hc
        have st : storeAt Try.prog 39 (.ptr 0 0 0) (.agg (rowAt i)) h = some (h.set 0 (.row (rowAt i) 0 0)) := store_fresh hg0 rfl hr.1 hr.2.1
        have ld : loadAt Try.prog 39 (.ptr 0 0 0) (h.set 0 (.row (rowAt i) 0 0)) = some (.agg (rowAt i)) := load_row (by simp only [hget_set, reduceIte]) hr.1
        have chk_ : True := by simp only [h0, h2, h4, h5, ln, f1, ia43 1 112 i 113 hlt none, fa39_1, l0, hc, l1, st]
        clear chk_
        repeat (first | refine EvP.seq ?_ | refine EvP.region ?_ | refine OpsP.nil ?_ | refine GuardP.no ?_ | refine DGuardP.no ?_ | refine DrP.nil ?_ | refine CondP.t ?_ | refine CondP.f ?_ | refine EvP.ret ?_ | refine EvP.skip ?_ | refine EvP.exit ?_ | refine EvP.block ?_ | refine EvP.scope ?_  | ((first | refine OpsP.put (v := ?_) (h1 := ?_) ?hd ?he ?_ | refine OpsP.eff (v := ?_) (h1 := ?_) ?he ?_ | refine GuardP.yes (v := ?_) (h1 := ?_) ?he ?_  | (refine DrP.put (d := ?_) (op := ?_) (t := ?_) (p := ?_) (a := ?_) (v := ?_) (h1 := ?_) ?ho ?hd ?he ?_; (case ho => rfl)) | (refine DrP.eff (op := ?_) (t := ?_) (p := ?_) (a := ?_) (v := ?_) (h1 := ?_) ?ho ?he ?_; (case ho => rfl)) | refine DGuardP.yes (v := ?_) (h1 := ?_) ?he ?_); (try case hd => rfl); (case he => intro run; ((try simp only [evOp, evA, val, vals, oval, parts, get_set, get_nil, ofArgs, ofValue, binOpE, arith, ilt, convertE, unOpE, builtinE, callV, List.nil_append, List.append_nil, Option.bind_some, Option.map_some, Nat.reduceEqDiff, reduceIte, Bool.not_true, Bool.not_false, List.getElem?_cons_zero, List.getElem?_cons_succ, List.getElem?_toArray, Array.toList, List.mapM_cons, List.mapM_nil, Option.pure_def, Option.bind_eq_bind, h0, h2, h4, h5, ln, f1, ia43 1 112 i 113 hlt none, fa39_1, l0, hc, l1, st]) <;> exact rfl)))  | ((first | refine OpsP.guard (x := ?_) (b := ?_) ?hj ?hx ?hd ?_ | (refine DrP.guard (d := ?_) (op := ?_) (t := ?_) (p := ?_) (a := ?_) (j := ?_) (w := ?_) (x := ?_) (b := ?_) ?ho ?hj ?hx ?hd ?_; (case ho => rfl)) | refine EvP.condB (c := ?_) ?hx ?_); (try case hj => rfl); (case hx => ((try simp only [val, get_set, get_nil, ofArgs, ofValue, Nat.reduceEqDiff, reduceIte, Option.map_some, h0, h2, h4, h5, ln, f1, ia43 1 112 i 113 hlt none, fa39_1, l0, hc, l1, st]) <;> exact rfl)); (try case hd => rfl)))
        refine ⟨[.agg (rowAt i), .bool true], ?_, ?_⟩
        · show resultsE Try.prog _ _ [.cell 2 39, .tmp 3] = _
          simp only [resultsE, get_set, Nat.reduceEqDiff, reduceIte, h2, ld, Option.bind_some, Option.map_some]
        · rw [← hnm]
          rfl
      | false =>
        rw [hq] at hnm hc
        have chk_ : True := by simp only [h0, h2, h4, h5, ln, f1, ia43 1 112 i 113 hlt none, fa39_1, l0, hc]
        clear chk_
        repeat (first | refine EvP.seq ?_ | refine EvP.region ?_ | refine OpsP.nil ?_ | refine GuardP.no ?_ | refine DGuardP.no ?_ | refine DrP.nil ?_ | refine CondP.t ?_ | refine CondP.f ?_ | refine EvP.ret ?_ | refine EvP.skip ?_ | refine EvP.exit ?_ | refine EvP.block ?_ | refine EvP.scope ?_  | ((first | refine OpsP.put (v := ?_) (h1 := ?_) ?hd ?he ?_ | refine OpsP.eff (v := ?_) (h1 := ?_) ?he ?_ | refine GuardP.yes (v := ?_) (h1 := ?_) ?he ?_  | (refine DrP.put (d := ?_) (op := ?_) (t := ?_) (p := ?_) (a := ?_) (v := ?_) (h1 := ?_) ?ho ?hd ?he ?_; (case ho => rfl)) | (refine DrP.eff (op := ?_) (t := ?_) (p := ?_) (a := ?_) (v := ?_) (h1 := ?_) ?ho ?he ?_; (case ho => rfl)) | refine DGuardP.yes (v := ?_) (h1 := ?_) ?he ?_); (try case hd => rfl); (case he => intro run; ((try simp only [evOp, evA, val, vals, oval, parts, get_set, get_nil, ofArgs, ofValue, binOpE, arith, ilt, convertE, unOpE, builtinE, callV, List.nil_append, List.append_nil, Option.bind_some, Option.map_some, Nat.reduceEqDiff, reduceIte, Bool.not_true, Bool.not_false, List.getElem?_cons_zero, List.getElem?_cons_succ, List.getElem?_toArray, Array.toList, List.mapM_cons, List.mapM_nil, Option.pure_def, Option.bind_eq_bind, h0, h2, h4, h5, ln, f1, ia43 1 112 i 113 hlt none, fa39_1, l0, hc]) <;> exact rfl)))  | ((first | refine OpsP.guard (x := ?_) (b := ?_) ?hj ?hx ?hd ?_ | (refine DrP.guard (d := ?_) (op := ?_) (t := ?_) (p := ?_) (a := ?_) (j := ?_) (w := ?_) (x := ?_) (b := ?_) ?ho ?hj ?hx ?hd ?_; (case ho => rfl)) | refine EvP.condB (c := ?_) ?hx ?_); (try case hj => rfl); (case hx => ((try simp only [val, get_set, get_nil, ofArgs, ofValue, Nat.reduceEqDiff, reduceIte, Option.map_some, h0, h2, h4, h5, ln, f1, ia43 1 112 i 113 hlt none, fa39_1, l0, hc]) <;> exact rfl)); (try case hd => rfl)))
        refine ⟨113 - (i + 1), by omega, hh, ?_, ?_, ?_, i + 1, rfl, by omega, ?_, hnm⟩
        · exact (by (try simp only [val, get_set, get_nil, ofArgs, ofValue, Nat.reduceEqDiff, reduceIte, Option.map_some, h0]) <;> exact rfl)
        · exact (by (try simp only [val, get_set, get_nil, ofArgs, ofValue, Nat.reduceEqDiff, reduceIte, Option.map_some, h2]) <;> exact rfl)
        · exact (by (try simp only [val, get_set, get_nil, ofArgs, ofValue, Nat.reduceEqDiff, reduceIte, Option.map_some, h4]) <;> exact rfl)
        · simp only [get_set, Nat.reduceEqDiff, reduceIte]
          rw [show Int.ofNat i + 1 = Int.ofNat (i + 1) from rfl, wrap_nat .i64 (i + 1) (by simp only [half]; omega)]
    · have f1 : Nat.blt 113 113 = false := rfl
      have : i = 113 := by omega
      subst this
      have st : storeAt Try.prog 39 (.ptr 0 0 0) (.agg noRow) h = some (h.set 0 (.row noRow 0 0)) := store_fresh hg0 rfl rfl rfl
      have ld : loadAt Try.prog 39 (.ptr 0 0 0) (h.set 0 (.row noRow 0 0)) = some (.agg noRow) := load_row (by simp only [hget_set, reduceIte]) rfl
      have chk_ : True := by simp only [h0, h2, h4, h5, ln, f1, build39, st]
      clear chk_
      repeat (first | refine EvP.seq ?_ | refine EvP.region ?_ | refine OpsP.nil ?_ | refine GuardP.no ?_ | refine DGuardP.no ?_ | refine DrP.nil ?_ | refine CondP.t ?_ | refine CondP.f ?_ | refine EvP.ret ?_ | refine EvP.skip ?_ | refine EvP.exit ?_ | refine EvP.block ?_ | refine EvP.scope ?_  | ((first | refine OpsP.put (v := ?_) (h1 := ?_) ?hd ?he ?_ | refine OpsP.eff (v := ?_) (h1 := ?_) ?he ?_ | refine GuardP.yes (v := ?_) (h1 := ?_) ?he ?_  | (refine DrP.put (d := ?_) (op := ?_) (t := ?_) (p := ?_) (a := ?_) (v := ?_) (h1 := ?_) ?ho ?hd ?he ?_; (case ho => rfl)) | (refine DrP.eff (op := ?_) (t := ?_) (p := ?_) (a := ?_) (v := ?_) (h1 := ?_) ?ho ?he ?_; (case ho => rfl)) | refine DGuardP.yes (v := ?_) (h1 := ?_) ?he ?_); (try case hd => rfl); (case he => intro run; ((try simp only [evOp, evA, val, vals, oval, parts, get_set, get_nil, ofArgs, ofValue, binOpE, arith, ilt, convertE, unOpE, builtinE, callV, List.nil_append, List.append_nil, Option.bind_some, Option.map_some, Nat.reduceEqDiff, reduceIte, Bool.not_true, Bool.not_false, List.getElem?_cons_zero, List.getElem?_cons_succ, List.getElem?_toArray, Array.toList, List.mapM_cons, List.mapM_nil, Option.pure_def, Option.bind_eq_bind, h0, h2, h4, h5, ln, f1, build39, st]) <;> exact rfl)))  | ((first | refine OpsP.guard (x := ?_) (b := ?_) ?hj ?hx ?hd ?_ | (refine DrP.guard (d := ?_) (op := ?_) (t := ?_) (p := ?_) (a := ?_) (j := ?_) (w := ?_) (x := ?_) (b := ?_) ?ho ?hj ?hx ?hd ?_; (case ho => rfl)) | refine EvP.condB (c := ?_) ?hx ?_); (try case hj => rfl); (case hx => ((try simp only [val, get_set, get_nil, ofArgs, ofValue, Nat.reduceEqDiff, reduceIte, Option.map_some, h0, h2, h4, h5, ln, f1, build39, st]) <;> exact rfl)); (try case hd => rfl)))
      refine ⟨[.agg noRow, .bool false], ?_, ?_⟩
      · show resultsE Try.prog _ _ [.cell 2 39, .tmp 3] = _
        simp only [resultsE, get_set, Nat.reduceEqDiff, reduceIte, h2, ld, Option.bind_some, Option.map_some]
      · rw [← hnm, show tab.drop 113 = [] by kernel_rfl]
        rfl
theorem namedR_ok : PureOk Try.prog ov25 16 fNamed := pureOk_of fun vs p hp => by
  unfold fNamed at hp
  split at hp
  · rename_i s
    split at hp
    · rename_i hs
      cases hp
      obtain ⟨r, h1, k1, rfl⟩ := namedR_body s hs
      exact ⟨_, h1, k1, by simp only [giftE, rowN_bare]⟩
    · cases hp
  · cases hp
def ov26 : Ov := ov25.with 16 fNamed
theorem ov26_ok : OvOk Try.prog ov26 := Ov.with_ok prog_ok ov25_ok namedR_ok
end Go.Ev

namespace Go.Ev
open Go.Proofs
set_option linter.unusedSimpArgs false
set_option linter.unusedVariables false
set_option maxHeartbeats 4000000
theorem call26_14 (run : Run) (h : Heap) (n : Nat) : callE Try.prog ov26 run 14 [.int .u32 (.ofNat n)] h = some (getN n, h) := rfl
theorem longR_body (cd : LV) (cs : List Nat) (hcd : codeOf cd = some cs) (at_ : Int) : ∃ r h1, Evc Try.prog ov26 17 [cd, .int .i64 at_] Heap.empty (r, h1) ∧ r = .int .i64 (.ofNat (longN cs at_)) := by
  have hL := codeOf_len hcd
  have hlen := code_len hcd
  cases at_ with
  | negSucc k =>
    have w : ilt (.negSucc k) 0 = true := rfl
    refine Evc.of rfl Try.func17 rfl rfl ?_
    have chk_ : True := by simp only [w, hlen]
    clear chk_
    repeat (first | refine EvP.seq ?_ | refine EvP.region ?_ | refine OpsP.nil ?_ | refine GuardP.no ?_ | refine DGuardP.no ?_ | refine DrP.nil ?_ | refine CondP.t ?_ | refine CondP.f ?_ | refine EvP.ret ?_ | refine EvP.skip ?_ | refine EvP.exit ?_ | refine EvP.block ?_ | refine EvP.scope ?_  | ((first | refine OpsP.put (v := ?_) (h1 := ?_) ?hd ?he ?_ | refine OpsP.eff (v := ?_) (h1 := ?_) ?he ?_ | refine GuardP.yes (v := ?_) (h1 := ?_) ?he ?_  | (refine DrP.put (d := ?_) (op := ?_) (t := ?_) (p := ?_) (a := ?_) (v := ?_) (h1 := ?_) ?ho ?hd ?he ?_; (case ho => rfl)) | (refine DrP.eff (op := ?_) (t := ?_) (p := ?_) (a := ?_) (v := ?_) (h1 := ?_) ?ho ?he ?_; (case ho => rfl)) | refine DGuardP.yes (v := ?_) (h1 := ?_) ?he ?_); (try case hd => rfl); (case he => intro run; ((try simp only [evOp, evA, val, vals, oval, parts, get_set, get_nil, ofArgs, ofValue, binOpE, arith, convertE, unOpE, builtinE, callV, List.nil_append, List.append_nil, Option.bind_some, Option.map_some, Nat.reduceEqDiff, reduceIte, Bool.not_true, Bool.not_false, List.getElem?_cons_zero, List.getElem?_cons_succ, List.getElem?_toArray, Array.toList, List.mapM_cons, List.mapM_nil, Option.pure_def, Option.bind_eq_bind, w, hlen]) <;> exact rfl)))  | ((first | refine OpsP.guard (x := ?_) (b := ?_) ?hj ?hx ?hd ?_ | (refine DrP.guard (d := ?_) (op := ?_) (t := ?_) (p := ?_) (a := ?_) (j := ?_) (w := ?_) (x := ?_) (b := ?_) ?ho ?hj ?hx ?hd ?_; (case ho => rfl)) | refine EvP.condB (c := ?_) ?hx ?_); (try case hj => rfl); (case hx => ((try simp only [val, get_set, get_nil, ofArgs, ofValue, Nat.reduceEqDiff, reduceIte, Option.map_some, w, hlen]) <;> exact rfl)); (try case hd => rfl)))
    refine ⟨_, rfl, ?_⟩
    simp only [oneOf, get_set, Nat.reduceEqDiff, reduceIte]
    rfl
  | ofNat i =>
    have w : ilt (.ofNat i) 0 = false := rfl
    by_cases hi : i < cs.length
    · have f1 : Nat.blt i cs.length = true := by rw [blt_eq]; simp [hi]
      obtain ⟨p, hp, hl⟩ := code_at hcd i hi
      have hd : cs.drop i = cs[i] :: cs.drop (i + 1) := List.drop_eq_getElem_cons hi
      have hlr : (cs.drop (i + 1)).length = cs.length - i - 1 := by simp; omega
      generalize cs[i] = x at *
      generalize hr : cs.drop (i + 1) = r at *
      by_cases hx : 256 ≤ x
      · have f2 : Nat.blt x 256 = false := by rw [blt_eq]; simp; omega
        refine Evc.of rfl Try.func17 rfl rfl ?_
        have chk_ : True := by simp only [w, hlen, f1, f2, hp, hl]
        clear chk_
        repeat (first | refine EvP.seq ?_ | refine EvP.region ?_ | refine OpsP.nil ?_ | refine GuardP.no ?_ | refine DGuardP.no ?_ | refine DrP.nil ?_ | refine CondP.t ?_ | refine CondP.f ?_ | refine EvP.ret ?_ | refine EvP.skip ?_ | refine EvP.exit ?_ | refine EvP.block ?_ | refine EvP.scope ?_  | ((first | refine OpsP.put (v := ?_) (h1 := ?_) ?hd ?he ?_ | refine OpsP.eff (v := ?_) (h1 := ?_) ?he ?_ | refine GuardP.yes (v := ?_) (h1 := ?_) ?he ?_  | (refine DrP.put (d := ?_) (op := ?_) (t := ?_) (p := ?_) (a := ?_) (v := ?_) (h1 := ?_) ?ho ?hd ?he ?_; (case ho => rfl)) | (refine DrP.eff (op := ?_) (t := ?_) (p := ?_) (a := ?_) (v := ?_) (h1 := ?_) ?ho ?he ?_; (case ho => rfl)) | refine DGuardP.yes (v := ?_) (h1 := ?_) ?he ?_); (try case hd => rfl); (case he => intro run; ((try simp only [evOp, evA, val, vals, oval, parts, get_set, get_nil, ofArgs, ofValue, binOpE, arith, ilt, convertE, unOpE, builtinE, callV, List.nil_append, List.append_nil, Option.bind_some, Option.map_some, Nat.reduceEqDiff, reduceIte, Bool.not_true, Bool.not_false, List.getElem?_cons_zero, List.getElem?_cons_succ, List.getElem?_toArray, Array.toList, List.mapM_cons, List.mapM_nil, Option.pure_def, Option.bind_eq_bind, w, hlen, f1, f2, hp, hl]) <;> exact rfl)))  | ((first | refine OpsP.guard (x := ?_) (b := ?_) ?hj ?hx ?hd ?_ | (refine DrP.guard (d := ?_) (op := ?_) (t := ?_) (p := ?_) (a := ?_) (j := ?_) (w := ?_) (x := ?_) (b := ?_) ?ho ?hj ?hx ?hd ?_; (case ho => rfl)) | refine EvP.condB (c := ?_) ?hx ?_); (try case hj => rfl); (case hx => ((try simp only [val, get_set, get_nil, ofArgs, ofValue, Nat.reduceEqDiff, reduceIte, Option.map_some, w, hlen, f1, f2, hp, hl]) <;> exact rfl)); (try case hd => rfl)))
        refine ⟨_, rfl, ?_⟩
        simp only [oneOf, get_set, Nat.reduceEqDiff, reduceIte, longN, hd, insN, if_pos hx]
        rfl
      · have f2 : Nat.blt x 256 = true := by rw [blt_eq]; simp; omega
        rcases spotN_lt x with hs | ⟨j, hj, hs⟩
        · have hg : getN x = .tuple [.agg noRow, .bool false] := by unfold getN; rw [hs]; rfl
          have st : storeAt Try.prog 39 (.ptr 0 0 0) (.agg noRow) (Heap.empty.new (.row noRow 0 0)).2 = some ((Heap.empty.new (.row noRow 0 0)).2.set 0 (.row noRow 0 0)) := store_fresh (cs := noRow) (by simp only [hget_new, hnext_empty, reduceIte]) rfl rfl rfl
          have l4 : loadAt Try.prog 3 (.ptr 0 0 (0 + 4)) ((Heap.empty.new (.row noRow 0 0)).2.set 0 (.row noRow 0 0)) = some (.int .i64 0) := by simp only [loadAt, agg3, readN, hget_set, reduceIte]; rfl
          refine Evc.of rfl Try.func17 rfl rfl ?_
          have chk_ : True := by simp only [w, hlen, f1, f2, hp, hl, call26_14, hg, zero39, LV.cells, putNew_eq, hnext_empty, st, l4, fa39_4]
          clear chk_
          repeat (first | refine EvP.seq ?_ | refine EvP.region ?_ | refine OpsP.nil ?_ | refine GuardP.no ?_ | refine DGuardP.no ?_ | refine DrP.nil ?_ | refine CondP.t ?_ | refine CondP.f ?_ | refine EvP.ret ?_ | refine EvP.skip ?_ | refine EvP.exit ?_ | refine EvP.block ?_ | refine EvP.scope ?_  | ((first | refine OpsP.put (v := ?_) (h1 := ?_) ?hd ?he ?_ | refine OpsP.eff (v := ?_) (h1 := ?_) ?he ?_ | refine GuardP.yes (v := ?_) (h1 := ?_) ?he ?_  | (refine DrP.put (d := ?_) (op := ?_) (t := ?_) (p := ?_) (a := ?_) (v := ?_) (h1 := ?_) ?ho ?hd ?he ?_; (case ho => rfl)) | (refine DrP.eff (op := ?_) (t := ?_) (p := ?_) (a := ?_) (v := ?_) (h1 := ?_) ?ho ?he ?_; (case ho => rfl)) | refine DGuardP.yes (v := ?_) (h1 := ?_) ?he ?_); (try case hd => rfl); (case he => intro run; ((try simp only [evOp, evA, val, vals, oval, parts, get_set, get_nil, ofArgs, ofValue, binOpE, arith, ilt, convertE, unOpE, builtinE, callV, List.nil_append, List.append_nil, Option.bind_some, Option.map_some, Nat.reduceEqDiff, reduceIte, Bool.not_true, Bool.not_false, List.getElem?_cons_zero, List.getElem?_cons_succ, List.getElem?_toArray, Array.toList, List.mapM_cons, List.mapM_nil, Option.pure_def, Option.bind_eq_bind, w, hlen, f1, f2, hp, hl, call26_14, hg, zero39, LV.cells, putNew_eq, hnext_empty, st, l4, fa39_4]) <;> exact rfl)))  | ((first | refine OpsP.guard (x := ?_) (b := ?_) ?hj ?hx ?hd ?_ | (refine DrP.guard (d := ?_) (op := ?_) (t := ?_) (p := ?_) (a := ?_) (j := ?_) (w := ?_) (x := ?_) (b := ?_) ?ho ?hj ?hx ?hd ?_; (case ho => rfl)) | refine EvP.condB (c := ?_) ?hx ?_); (try case hj => rfl); (case hx => ((try simp only [val, get_set, get_nil, ofArgs, ofValue, Nat.reduceEqDiff, reduceIte, Option.map_some, w, hlen, f1, f2, hp, hl, call26_14, hg, zero39, LV.cells, putNew_eq, hnext_empty, st, l4, fa39_4]) <;> exact rfl)); (try case hd => rfl)))
          refine ⟨_, rfl, ?_⟩
          simp only [oneOf, get_set, Nat.reduceEqDiff, reduceIte, longN, hd, insN, if_neg hx, hs]
          rfl
        · obtain ⟨a, nm, c, d, e, f, g, hrow, hcells, he, hf, hg'⟩ := row_data j hj
          have hg : getN x = .tuple [.agg [.int .u32 (.ofNat a), .str nm, .int .i64 (.ofNat c), .int .i64 (.ofNat d), .int .i64 (.ofNat e), .bool f, .bool g], .bool true] := by rw [getN_of x j hs, hcells]
          have st : storeAt Try.prog 39 (.ptr 0 0 0) (.agg [.int .u32 (.ofNat a), .str nm, .int .i64 (.ofNat c), .int .i64 (.ofNat d), .int .i64 (.ofNat e), .bool f, .bool g]) (Heap.empty.new (.row noRow 0 0)).2 = some ((Heap.empty.new (.row noRow 0 0)).2.set 0 (.row [.int .u32 (.ofNat a), .str nm, .int .i64 (.ofNat c), .int .i64 (.ofNat d), .int .i64 (.ofNat e), .bool f, .bool g] 0 0)) := store_fresh (cs := noRow) (by simp only [hget_new, hnext_empty, reduceIte]) rfl rfl rfl
          have l4 : loadAt Try.prog 3 (.ptr 0 0 (0 + 4)) ((Heap.empty.new (.row noRow 0 0)).2.set 0 (.row [.int .u32 (.ofNat a), .str nm, .int .i64 (.ofNat c), .int .i64 (.ofNat d), .int .i64 (.ofNat e), .bool f, .bool g] 0 0)) = some (.int .i64 (.ofNat e)) := by simp only [loadAt, agg3, readN, hget_set, reduceIte]; rfl
          have l5 : loadAt Try.prog 4 (.ptr 0 0 (0 + 5)) ((Heap.empty.new (.row noRow 0 0)).2.set 0 (.row [.int .u32 (.ofNat a), .str nm, .int .i64 (.ofNat c), .int .i64 (.ofNat d), .int .i64 (.ofNat e), .bool f, .bool g] 0 0)) = some (.bool f) := by simp only [loadAt, agg4, readN, hget_set, reduceIte]; rfl
          have w1 : wrap .i64 (1 + Int.ofNat e) = .ofNat (e + 1) := by rw [show (1 : Int) + Int.ofNat e = Int.ofNat (e + 1) by simp; omega, wrap_nat .i64 (e + 1) (by simp only [half]; omega)]
          have w2 : wrap .i64 (Int.ofNat cs.length - Int.ofNat i) = .ofNat (cs.length - i) := by rw [show Int.ofNat cs.length - Int.ofNat i = Int.ofNat (cs.length - i) from nat_sub (b := i) (by omega), wrap_nat .i64 _ (by simp only [half]; omega)]
          by_cases hn : r.length < e
          · have f3 : Nat.blt (cs.length - i) (e + 1) = true := by rw [blt_eq]; simp; omega
            refine Evc.of rfl Try.func17 rfl rfl ?_
            have chk_ : True := by simp only [w, hlen, f1, f2, hp, hl, call26_14, hg, zero39, LV.cells, putNew_eq, hnext_empty, st, l4, fa39_4, w1, w2, f3]
            clear chk_
            repeat (first | refine EvP.seq ?_ | refine EvP.region ?_ | refine OpsP.nil ?_ | refine GuardP.no ?_ | refine DGuardP.no ?_ | refine DrP.nil ?_ | refine CondP.t ?_ | refine CondP.f ?_ | refine EvP.ret ?_ | refine EvP.skip ?_ | refine EvP.exit ?_ | refine EvP.block ?_ | refine EvP.scope ?_  | ((first | refine OpsP.put (v := ?_) (h1 := ?_) ?hd ?he ?_ | refine OpsP.eff (v := ?_) (h1 := ?_) ?he ?_ | refine GuardP.yes (v := ?_) (h1 := ?_) ?he ?_  | (refine DrP.put (d := ?_) (op := ?_) (t := ?_) (p := ?_) (a := ?_) (v := ?_) (h1 := ?_) ?ho ?hd ?he ?_; (case ho => rfl)) | (refine DrP.eff (op := ?_) (t := ?_) (p := ?_) (a := ?_) (v := ?_) (h1 := ?_) ?ho ?he ?_; (case ho => rfl)) | refine DGuardP.yes (v := ?_) (h1 := ?_) ?he ?_); (try case hd => rfl); (case he => intro run; ((try simp only [evOp, evA, val, vals, oval, parts, get_set, get_nil, ofArgs, ofValue, binOpE, arith, ilt, convertE, unOpE, builtinE, callV, List.nil_append, List.append_nil, Option.bind_some, Option.map_some, Nat.reduceEqDiff, reduceIte, Bool.not_true, Bool.not_false, List.getElem?_cons_zero, List.getElem?_cons_succ, List.getElem?_toArray, Array.toList, List.mapM_cons, List.mapM_nil, Option.pure_def, Option.bind_eq_bind, w, hlen, f1, f2, hp, hl, call26_14, hg, zero39, LV.cells, putNew_eq, hnext_empty, st, l4, fa39_4, w1, w2, f3]) <;> exact rfl)))  | ((first | refine OpsP.guard (x := ?_) (b := ?_) ?hj ?hx ?hd ?_ | (refine DrP.guard (d := ?_) (op := ?_) (t := ?_) (p := ?_) (a := ?_) (j := ?_) (w := ?_) (x := ?_) (b := ?_) ?ho ?hj ?hx ?hd ?_; (case ho => rfl)) | refine EvP.condB (c := ?_) ?hx ?_); (try case hj => rfl); (case hx => ((try simp only [val, get_set, get_nil, ofArgs, ofValue, Nat.reduceEqDiff, reduceIte, Option.map_some, w, hlen, f1, f2, hp, hl, call26_14, hg, zero39, LV.cells, putNew_eq, hnext_empty, st, l4, fa39_4, w1, w2, f3]) <;> exact rfl)); (try case hd => rfl)))
            refine ⟨_, rfl, ?_⟩
            simp only [oneOf, get_set, Nat.reduceEqDiff, reduceIte, longN, hd, insN, if_neg hx, hs, hrow, if_pos hn]
            rfl
          · have f3 : Nat.blt (cs.length - i) (e + 1) = false := by rw [blt_eq]; simp; omega
            cases f with
            | false =>
              refine Evc.of rfl Try.func17 rfl rfl ?_
              have chk_ : True := by simp only [w, hlen, f1, f2, hp, hl, call26_14, hg, zero39, LV.cells, putNew_eq, hnext_empty, st, l4, l5, fa39_4, fa39_5, w1, w2, f3]
              clear chk_
              repeat (first | refine EvP.seq ?_ | refine EvP.region ?_ | refine OpsP.nil ?_ | refine GuardP.no ?_ | refine DGuardP.no ?_ | refine DrP.nil ?_ | refine CondP.t ?_ | refine CondP.f ?_ | refine EvP.ret ?_ | refine EvP.skip ?_ | refine EvP.exit ?_ | refine EvP.block ?_ | refine EvP.scope ?_  | ((first | refine OpsP.put (v := ?_) (h1 := ?_) ?hd ?he ?_ | refine OpsP.eff (v := ?_) (h1 := ?_) ?he ?_ | refine GuardP.yes (v := ?_) (h1 := ?_) ?he ?_  | (refine DrP.put (d := ?_) (op := ?_) (t := ?_) (p := ?_) (a := ?_) (v := ?_) (h1 := ?_) ?ho ?hd ?he ?_; (case ho => rfl)) | (refine DrP.eff (op := ?_) (t := ?_) (p := ?_) (a := ?_) (v := ?_) (h1 := ?_) ?ho ?he ?_; (case ho => rfl)) | refine DGuardP.yes (v := ?_) (h1 := ?_) ?he ?_); (try case hd => rfl); (case he => intro run; ((try simp only [evOp, evA, val, vals, oval, parts, get_set, get_nil, ofArgs, ofValue, binOpE, arith, ilt, convertE, unOpE, builtinE, callV, List.nil_append, List.append_nil, Option.bind_some, Option.map_some, Nat.reduceEqDiff, reduceIte, Bool.not_true, Bool.not_false, List.getElem?_cons_zero, List.getElem?_cons_succ, List.getElem?_toArray, Array.toList, List.mapM_cons, List.mapM_nil, Option.pure_def, Option.bind_eq_bind, w, hlen, f1, f2, hp, hl, call26_14, hg, zero39, LV.cells, putNew_eq, hnext_empty, st, l4, l5, fa39_4, fa39_5, w1, w2, f3]) <;> exact rfl)))  | ((first | refine OpsP.guard (x := ?_) (b := ?_) ?hj ?hx ?hd ?_ | (refine DrP.guard (d := ?_) (op := ?_) (t := ?_) (p := ?_) (a := ?_) (j := ?_) (w := ?_) (x := ?_) (b := ?_) ?ho ?hj ?hx ?hd ?_; (case ho => rfl)) | refine EvP.condB (c := ?_) ?hx ?_); (try case hj => rfl); (case hx => ((try simp only [val, get_set, get_nil, ofArgs, ofValue, Nat.reduceEqDiff, reduceIte, Option.map_some, w, hlen, f1, f2, hp, hl, call26_14, hg, zero39, LV.cells, putNew_eq, hnext_empty, st, l4, l5, fa39_4, fa39_5, w1, w2, f3]) <;> exact rfl)); (try case hd => rfl)))
              refine ⟨_, rfl, ?_⟩
              simp only [oneOf, get_set, Nat.reduceEqDiff, reduceIte, longN, hd, insN, if_neg hx, hs, hrow, if_neg hn]
              rw [Nat.add_comm]
            | true =>
              obtain ⟨rfl, -⟩ := hf rfl
              have hi1 : i + 1 < cs.length := by omega
              obtain ⟨p', hp', hl'⟩ := code_at hcd (i + 1) hi1
              have hd' : r = cs[i + 1] :: cs.drop (i + 1 + 1) := by rw [← hr]; exact List.drop_eq_getElem_cons hi1
              generalize cs[i + 1] = y at *
              have w3 : wrap .i64 (Int.ofNat i + 1) = .ofNat (i + 1) := by rw [show Int.ofNat i + 1 = Int.ofNat (i + 1) from rfl, wrap_nat .i64 (i + 1) (by simp only [half]; omega)]
              by_cases hy : 1000 < y
              · have f4 : Nat.blt 1000 y = true := by rw [blt_eq]; simp [hy]
                refine Evc.of rfl Try.func17 rfl rfl ?_
                have chk_ : True := by simp only [w, hlen, f1, f2, hp, hl, call26_14, hg, zero39, LV.cells, putNew_eq, hnext_empty, st, l4, l5, fa39_4, fa39_5, w1, w2, f3, w3, hp', hl', f4]
                clear chk_
                repeat (first | refine EvP.seq ?_ | refine EvP.region ?_ | refine OpsP.nil ?_ | refine GuardP.no ?_ | refine DGuardP.no ?_ | refine DrP.nil ?_ | refine CondP.t ?_ | refine CondP.f ?_ | refine EvP.ret ?_ | refine EvP.skip ?_ | refine EvP.exit ?_ | refine EvP.block ?_ | refine EvP.scope ?_  | ((first | refine OpsP.put (v := ?_) (h1 := ?_) ?hd ?he ?_ | refine OpsP.eff (v := ?_) (h1 := ?_) ?he ?_ | refine GuardP.yes (v := ?_) (h1 := ?_) ?he ?_  | (refine DrP.put (d := ?_) (op := ?_) (t := ?_) (p := ?_) (a := ?_) (v := ?_) (h1 := ?_) ?ho ?hd ?he ?_; (case ho => rfl)) | (refine DrP.eff (op := ?_) (t := ?_) (p := ?_) (a := ?_) (v := ?_) (h1 := ?_) ?ho ?he ?_; (case ho => rfl)) | refine DGuardP.yes (v := ?_) (h1 := ?_) ?he ?_); (try case hd => rfl); (case he => intro run; ((try simp only [evOp, evA, val, vals, oval, parts, get_set, get_nil, ofArgs, ofValue, binOpE, arith, ilt, convertE, unOpE, builtinE, callV, List.nil_append, List.append_nil, Option.bind_some, Option.map_some, Nat.reduceEqDiff, reduceIte, Bool.not_true, Bool.not_false, List.getElem?_cons_zero, List.getElem?_cons_succ, List.getElem?_toArray, Array.toList, List.mapM_cons, List.mapM_nil, Option.pure_def, Option.bind_eq_bind, w, hlen, f1, f2, hp, hl, call26_14, hg, zero39, LV.cells, putNew_eq, hnext_empty, st, l4, l5, fa39_4, fa39_5, w1, w2, f3, w3, hp', hl', f4]) <;> exact rfl)))  | ((first | refine OpsP.guard (x := ?_) (b := ?_) ?hj ?hx ?hd ?_ | (refine DrP.guard (d := ?_) (op := ?_) (t := ?_) (p := ?_) (a := ?_) (j := ?_) (w := ?_) (x := ?_) (b := ?_) ?ho ?hj ?hx ?hd ?_; (case ho => rfl)) | refine EvP.condB (c := ?_) ?hx ?_); (try case hj => rfl); (case hx => ((try simp only [val, get_set, get_nil, ofArgs, ofValue, Nat.reduceEqDiff, reduceIte, Option.map_some, w, hlen, f1, f2, hp, hl, call26_14, hg, zero39, LV.cells, putNew_eq, hnext_empty, st, l4, l5, fa39_4, fa39_5, w1, w2, f3, w3, hp', hl', f4]) <;> exact rfl)); (try case hd => rfl)))
                refine ⟨_, rfl, ?_⟩
                simp only [oneOf, get_set, Nat.reduceEqDiff, reduceIte, longN, hd, insN, if_neg hx, hs, hrow, if_neg hn]
                rw [hd']
                simp only [if_pos hy]
                rfl
              · have f4 : Nat.blt 1000 y = false := by rw [blt_eq]; simp; omega
                have w4 : wrap .i64 (Int.ofNat y) = .ofNat y := wrap_nat .i64 y (by simp only [half]; omega)
                have w5 : wrap .i64 (Int.ofNat y + 3) = .ofNat (y + 3) := by rw [show Int.ofNat y + 3 = Int.ofNat (y + 3) from rfl, wrap_nat .i64 (y + 3) (by simp only [half]; omega)]
                have w7 : wrap .i64 ((Int.ofNat (y + 3)).tdiv 4) = .ofNat ((y + 3) / 4) := by rw [show (Int.ofNat (y + 3)).tdiv 4 = Int.ofNat ((y + 3) / 4) from rfl, wrap_nat .i64 _ (by simp only [half]; omega)]
                have w8 : wrap .i64 (Int.ofNat (1 + 1) + Int.ofNat ((y + 3) / 4)) = .ofNat (2 + (y + 3) / 4) := by rw [show Int.ofNat (1 + 1) + Int.ofNat ((y + 3) / 4) = Int.ofNat (2 + (y + 3) / 4) from rfl, wrap_nat .i64 _ (by simp only [half]; omega)]
                have q4 : ieq 4 0 = false := rfl
                by_cases hz : r.length + 1 < 2 + (y + 3) / 4
                · have f5 : Nat.blt (cs.length - i) (2 + (y + 3) / 4) = true := by rw [blt_eq]; simp; omega
                  refine Evc.of rfl Try.func17 rfl rfl ?_
                  have chk_ : True := by simp only [w, hlen, f1, f2, hp, hl, call26_14, hg, zero39, LV.cells, putNew_eq, hnext_empty, st, l4, l5, fa39_4, fa39_5, w1, w2, f3, w3, hp', hl', f4, w4, w5, w7, w8, q4, f5]
                  clear chk_
                  repeat (first | refine EvP.seq ?_ | refine EvP.region ?_ | refine OpsP.nil ?_ | refine GuardP.no ?_ | refine DGuardP.no ?_ | refine DrP.nil ?_ | refine CondP.t ?_ | refine CondP.f ?_ | refine EvP.ret ?_ | refine EvP.skip ?_ | refine EvP.exit ?_ | refine EvP.block ?_ | refine EvP.scope ?_  | ((first | refine OpsP.put (v := ?_) (h1 := ?_) ?hd ?he ?_ | refine OpsP.eff (v := ?_) (h1 := ?_) ?he ?_ | refine GuardP.yes (v := ?_) (h1 := ?_) ?he ?_  | (refine DrP.put (d := ?_) (op := ?_) (t := ?_) (p := ?_) (a := ?_) (v := ?_) (h1 := ?_) ?ho ?hd ?he ?_; (case ho => rfl)) | (refine DrP.eff (op := ?_) (t := ?_) (p := ?_) (a := ?_) (v := ?_) (h1 := ?_) ?ho ?he ?_; (case ho => rfl)) | refine DGuardP.yes (v := ?_) (h1 := ?_) ?he ?_); (try case hd => rfl); (case he => intro run; ((try simp only [evOp, evA, val, vals, oval, parts, get_set, get_nil, ofArgs, ofValue, binOpE, arith, ilt, convertE, unOpE, builtinE, callV, List.nil_append, List.append_nil, Option.bind_some, Option.map_some, Nat.reduceEqDiff, reduceIte, Bool.not_true, Bool.not_false, List.getElem?_cons_zero, List.getElem?_cons_succ, List.getElem?_toArray, Array.toList, List.mapM_cons, List.mapM_nil, Option.pure_def, Option.bind_eq_bind, w, hlen, f1, f2, hp, hl, call26_14, hg, zero39, LV.cells, putNew_eq, hnext_empty, st, l4, l5, fa39_4, fa39_5, w1, w2, f3, w3, hp', hl', f4, w4, w5, w7, w8, q4, f5]) <;> exact rfl)))  | ((first | refine OpsP.guard (x := ?_) (b := ?_) ?hj ?hx ?hd ?_ | (refine DrP.guard (d := ?_) (op := ?_) (t := ?_) (p := ?_) (a := ?_) (j := ?_) (w := ?_) (x := ?_) (b := ?_) ?ho ?hj ?hx ?hd ?_; (case ho => rfl)) | refine EvP.condB (c := ?_) ?hx ?_); (try case hj => rfl); (case hx => ((try simp only [val, get_set, get_nil, ofArgs, ofValue, Nat.reduceEqDiff, reduceIte, Option.map_some, w, hlen, f1, f2, hp, hl, call26_14, hg, zero39, LV.cells, putNew_eq, hnext_empty, st, l4, l5, fa39_4, fa39_5, w1, w2, f3, w3, hp', hl', f4, w4, w5, w7, w8, q4, f5]) <;> exact rfl)); (try case hd => rfl)))
                  refine ⟨_, rfl, ?_⟩
                  simp only [oneOf, get_set, Nat.reduceEqDiff, reduceIte, longN, hd, insN, if_neg hx, hs, hrow, if_neg hn]
                  rw [hd'] at hz ⊢
                  simp only [if_neg hy, if_pos hz]
                  rfl
                · have f5 : Nat.blt (cs.length - i) (2 + (y + 3) / 4) = false := by rw [blt_eq]; simp; omega
                  refine Evc.of rfl Try.func17 rfl rfl ?_
                  have chk_ : True := by simp only [w, hlen, f1, f2, hp, hl, call26_14, hg, zero39, LV.cells, putNew_eq, hnext_empty, st, l4, l5, fa39_4, fa39_5, w1, w2, f3, w3, hp', hl', f4, w4, w5, w7, w8, q4, f5]
                  clear chk_
                  repeat (first | refine EvP.seq ?_ | refine EvP.region ?_ | refine OpsP.nil ?_ | refine GuardP.no ?_ | refine DGuardP.no ?_ | refine DrP.nil ?_ | refine CondP.t ?_ | refine CondP.f ?_ | refine EvP.ret ?_ | refine EvP.skip ?_ | refine EvP.exit ?_ | refine EvP.block ?_ | refine EvP.scope ?_  | ((first | refine OpsP.put (v := ?_) (h1 := ?_) ?hd ?he ?_ | refine OpsP.eff (v := ?_) (h1 := ?_) ?he ?_ | refine GuardP.yes (v := ?_) (h1 := ?_) ?he ?_  | (refine DrP.put (d := ?_) (op := ?_) (t := ?_) (p := ?_) (a := ?_) (v := ?_) (h1 := ?_) ?ho ?hd ?he ?_; (case ho => rfl)) | (refine DrP.eff (op := ?_) (t := ?_) (p := ?_) (a := ?_) (v := ?_) (h1 := ?_) ?ho ?he ?_; (case ho => rfl)) | refine DGuardP.yes (v := ?_) (h1 := ?_) ?he ?_); (try case hd => rfl); (case he => intro run; ((try simp only [evOp, evA, val, vals, oval, parts, get_set, get_nil, ofArgs, ofValue, binOpE, arith, ilt, convertE, unOpE, builtinE, callV, List.nil_append, List.append_nil, Option.bind_some, Option.map_some, Nat.reduceEqDiff, reduceIte, Bool.not_true, Bool.not_false, List.getElem?_cons_zero, List.getElem?_cons_succ, List.getElem?_toArray, Array.toList, List.mapM_cons, List.mapM_nil, Option.pure_def, Option.bind_eq_bind, w, hlen, f1, f2, hp, hl, call26_14, hg, zero39, LV.cells, putNew_eq, hnext_empty, st, l4, l5, fa39_4, fa39_5, w1, w2, f3, w3, hp', hl', f4, w4, w5, w7, w8, q4, f5]) <;> exact rfl)))  | ((first | refine OpsP.guard (x := ?_) (b := ?_) ?hj ?hx ?hd ?_ | (refine DrP.guard (d := ?_) (op := ?_) (t := ?_) (p := ?_) (a := ?_) (j := ?_) (w := ?_) (x := ?_) (b := ?_) ?ho ?hj ?hx ?hd ?_; (case ho => rfl)) | refine EvP.condB (c := ?_) ?hx ?_); (try case hj => rfl); (case hx => ((try simp only [val, get_set, get_nil, ofArgs, ofValue, Nat.reduceEqDiff, reduceIte, Option.map_some, w, hlen, f1, f2, hp, hl, call26_14, hg, zero39, LV.cells, putNew_eq, hnext_empty, st, l4, l5, fa39_4, fa39_5, w1, w2, f3, w3, hp', hl', f4, w4, w5, w7, w8, q4, f5]) <;> exact rfl)); (try case hd => rfl)))
                  refine ⟨_, rfl, ?_⟩
                  simp only [oneOf, get_set, Nat.reduceEqDiff, reduceIte, longN, hd, insN, if_neg hx, hs, hrow, if_neg hn]
                  rw [hd'] at hz ⊢
                  simp only [if_neg hy, if_neg hz]
    · have f1 : Nat.blt i cs.length = false := by rw [blt_eq]; simp; omega
      refine Evc.of rfl Try.func17 rfl rfl ?_
      have chk_ : True := by simp only [w, hlen, f1]
      clear chk_
      repeat (first | refine EvP.seq ?_ | refine EvP.region ?_ | refine OpsP.nil ?_ | refine GuardP.no ?_ | refine DGuardP.no ?_ | refine DrP.nil ?_ | refine CondP.t ?_ | refine CondP.f ?_ | refine EvP.ret ?_ | refine EvP.skip ?_ | refine EvP.exit ?_ | refine EvP.block ?_ | refine EvP.scope ?_  | ((first | refine OpsP.put (v := ?_) (h1 := ?_) ?hd ?he ?_ | refine OpsP.eff (v := ?_) (h1 := ?_) ?he ?_ | refine GuardP.yes (v := ?_) (h1 := ?_) ?he ?_  | (refine DrP.put (d := ?_) (op := ?_) (t := ?_) (p := ?_) (a := ?_) (v := ?_) (h1 := ?_) ?ho ?hd ?he ?_; (case ho => rfl)) | (refine DrP.eff (op := ?_) (t := ?_) (p := ?_) (a := ?_) (v := ?_) (h1 := ?_) ?ho ?he ?_; (case ho => rfl)) | refine DGuardP.yes (v := ?_) (h1 := ?_) ?he ?_); (try case hd => rfl); (case he => intro run; ((try simp only [evOp, evA, val, vals, oval, parts, get_set, get_nil, ofArgs, ofValue, binOpE, arith, ilt, convertE, unOpE, builtinE, callV, List.nil_append, List.append_nil, Option.bind_some, Option.map_some, Nat.reduceEqDiff, reduceIte, Bool.not_true, Bool.not_false, List.getElem?_cons_zero, List.getElem?_cons_succ, List.getElem?_toArray, Array.toList, List.mapM_cons, List.mapM_nil, Option.pure_def, Option.bind_eq_bind, w, hlen, f1]) <;> exact rfl)))  | ((first | refine OpsP.guard (x := ?_) (b := ?_) ?hj ?hx ?hd ?_ | (refine DrP.guard (d := ?_) (op := ?_) (t := ?_) (p := ?_) (a := ?_) (j := ?_) (w := ?_) (x := ?_) (b := ?_) ?ho ?hj ?hx ?hd ?_; (case ho => rfl)) | refine EvP.condB (c := ?_) ?hx ?_); (try case hj => rfl); (case hx => ((try simp only [val, get_set, get_nil, ofArgs, ofValue, Nat.reduceEqDiff, reduceIte, Option.map_some, w, hlen, f1]) <;> exact rfl)); (try case hd => rfl)))
      refine ⟨_, rfl, ?_⟩
      simp only [oneOf, get_set, Nat.reduceEqDiff, reduceIte, longN, List.drop_eq_nil_of_le (show cs.length ≤ i by omega), insN]
      rfl
theorem longR_ok : PureOk Try.prog ov26 17 fLong := pureOk_of fun vs p hp => by
  unfold fLong at hp
  split at hp
  · rename_i cd at_
    obtain ⟨cs, hcd, e⟩ := mp hp
    subst e
    obtain ⟨r, h1, k1, rfl⟩ := longR_body cd cs hcd at_
    exact ⟨_, h1, k1, rfl⟩
  · cases hp
def ov27 : Ov := ov26.with 17 fLong
theorem ov27_ok : OvOk Try.prog ov27 := Ov.with_ok prog_ok ov26_ok longR_ok
theorem call27_17 (run : Run) (h : Heap) {cd : LV} {cs : List Nat} (hcd : codeOf cd = some cs) (at_ : Int) : callE Try.prog ov27 run 17 [cd, .int .i64 at_] h = some (.int .i64 (.ofNat (longN cs at_)), h) := by
  obtain ⟨v, h1, h2⟩ := codeV_of hcd h
  show pureCall fLong _ h = _
  rw [pure2 h1 (rfl : freezeV h 10 (.int .i64 at_) = some (.int .i64 at_))]
  simp only [fLong, h2, Option.map_some, putGift]
theorem startsR_body (cd : LV) (cs : List Nat) (hcd : codeOf cd = some cs) : ∃ r h1, Evc Try.prog ov27 19 [cd] Heap.empty (r, h1) ∧ giftE h1 r = some (startsGift cs) := by
  have hL := codeOf_len hcd
  have hlen := code_len hcd
  refine Evc.of rfl Try.func19 rfl rfl ?_
  repeat (first | refine EvP.seq ?_ | refine EvP.region ?_ | refine OpsP.nil ?_ | refine GuardP.no ?_ | refine DGuardP.no ?_ | refine DrP.nil ?_ | refine CondP.t ?_ | refine CondP.f ?_ | refine EvP.ret ?_ | refine EvP.skip ?_ | refine EvP.exit ?_ | refine EvP.block ?_ | refine EvP.scope ?_  | ((first | refine OpsP.put (v := ?_) (h1 := ?_) ?hd ?he ?_ | refine OpsP.eff (v := ?_) (h1 := ?_) ?he ?_ | refine GuardP.yes (v := ?_) (h1 := ?_) ?he ?_  | (refine DrP.put (d := ?_) (op := ?_) (t := ?_) (p := ?_) (a := ?_) (v := ?_) (h1 := ?_) ?ho ?hd ?he ?_; (case ho => rfl)) | (refine DrP.eff (op := ?_) (t := ?_) (p := ?_) (a := ?_) (v := ?_) (h1 := ?_) ?ho ?he ?_; (case ho => rfl)) | refine DGuardP.yes (v := ?_) (h1 := ?_) ?he ?_); (try case hd => rfl); (case he => intro run; ((try simp only [evOp, evA, val, vals, oval, parts, get_set, get_nil, ofArgs, ofValue, binOpE, arith, ilt, convertE, unOpE, builtinE, lenE, callV, List.nil_append, List.append_nil, Option.bind_some, Option.map_some, Nat.reduceEqDiff, reduceIte, Bool.not_true, Bool.not_false, List.getElem?_cons_zero, List.getElem?_cons_succ, List.getElem?_toArray, Array.toList, List.mapM_cons, List.mapM_nil, Option.pure_def, Option.bind_eq_bind]) <;> exact rfl)))  | ((first | refine OpsP.guard (x := ?_) (b := ?_) ?hj ?hx ?hd ?_ | (refine DrP.guard (d := ?_) (op := ?_) (t := ?_) (p := ?_) (a := ?_) (j := ?_) (w := ?_) (x := ?_) (b := ?_) ?ho ?hj ?hx ?hd ?_; (case ho => rfl)) | refine EvP.condB (c := ?_) ?hx ?_); (try case hj => rfl); (case hx => ((try simp only [val, get_set, get_nil, ofArgs, ofValue, Nat.reduceEqDiff, reduceIte, Option.map_some]) <;> exact rfl)); (try case hd => rfl)))
  refine EvP.loop (fun m tm h => tm.get 0 = cd ∧ ∃ i pre k, m = cs.length - i ∧ i ≤ cs.length ∧ tm.get 5 = .int .i64 (.ofNat i) ∧ pre.length ≤ i ∧ cs.length - i ≤ k ∧ (startsF k i (cs.drop i)).map (pre ++ ·) = startsN cs ∧
      ((pre = [] ∧ tm.get 4 = .nils) ∨ ∃ q x l, pre = x :: l ∧ tm.get 4 = .slice q l.length 0 (l.length + 1) none 1 ∧ h.get q = some (.row (i64s pre) l.length (wlN (l.length + 1))) ∧ q < h.next)) cs.length ?_ ?_
  · refine ⟨?_, 0, [], cs.length, rfl, by omega, ?_, Nat.le_refl _, Nat.le_refl _, ?_, .inl ⟨rfl, ?_⟩⟩
    · exact (by (try simp only [val, get_set, get_nil, ofArgs, ofValue, Nat.reduceEqDiff, reduceIte, Option.map_some]) <;> exact rfl)
    · exact (by (try simp only [val, get_set, get_nil, ofArgs, ofValue, Nat.reduceEqDiff, reduceIte, Option.map_some]) <;> exact rfl)
    · simp [startsN]
    · exact (by (try simp only [val, get_set, get_nil, ofArgs, ofValue, Nat.reduceEqDiff, reduceIte, Option.map_some]) <;> exact rfl)
  · rintro m tm h ⟨h0, i, pre, k, rfl, hi, h5, hpl, hk, hst, hpre⟩
    by_cases hlt : i < cs.length
    · have f1 : Nat.blt i cs.length = true := by rw [blt_eq]; simp [hlt]
      have hd : cs.drop i = cs[i] :: cs.drop (i + 1) := List.drop_eq_getElem_cons hlt
      have hcl := fun run h => call27_17 run h hcd (.ofNat i)
      have hln : longN cs (.ofNat i) = insN (cs.drop i) := rfl
      obtain ⟨k, rfl⟩ : ∃ k', k = k' + 1 := ⟨k - 1, by omega⟩
      have hle : insN (cs.drop i) ≤ cs.length - i := by have := insN_le (cs.drop i); simpa using this
      cases hn : insN (cs.drop i) with
      | zero =>
        rw [hln, hn] at hcl
        have chk_ : True := by simp only [h0, h5, hlen, f1, hcl, ieq]
        clear chk_
        repeat (first | refine EvP.seq ?_ | refine EvP.region ?_ | refine OpsP.nil ?_ | refine GuardP.no ?_ | refine DGuardP.no ?_ | refine DrP.nil ?_ | refine CondP.t ?_ | refine CondP.f ?_ | refine EvP.ret ?_ | refine EvP.skip ?_ | refine EvP.exit ?_ | refine EvP.block ?_ | refine EvP.scope ?_  | ((first | refine OpsP.put (v := ?_) (h1 := ?_) ?hd ?he ?_ | refine OpsP.eff (v := ?_) (h1 := ?_) ?he ?_ | refine GuardP.yes (v := ?_) (h1 := ?_) ?he ?_  | (refine DrP.put (d := ?_) (op := ?_) (t := ?_) (p := ?_) (a := ?_) (v := ?_) (h1 := ?_) ?ho ?hd ?he ?_; (case ho => rfl)) | (refine DrP.eff (op := ?_) (t := ?_) (p := ?_) (a := ?_) (v := ?_) (h1 := ?_) ?ho ?he ?_; (case ho => rfl)) | refine DGuardP.yes (v := ?_) (h1 := ?_) ?he ?_); (try case hd => rfl); (case he => intro run; ((try simp only [evOp, evA, val, vals, oval, parts, get_set, get_nil, ofArgs, ofValue, binOpE, arith, ilt, convertE, unOpE, builtinE, callV, List.nil_append, List.append_nil, Option.bind_some, Option.map_some, Nat.reduceEqDiff, reduceIte, Bool.not_true, Bool.not_false, List.getElem?_cons_zero, List.getElem?_cons_succ, List.getElem?_toArray, Array.toList, List.mapM_cons, List.mapM_nil, Option.pure_def, Option.bind_eq_bind, h0, h5, hlen, f1, hcl, ieq]) <;> exact rfl)))  | ((first | refine OpsP.guard (x := ?_) (b := ?_) ?hj ?hx ?hd ?_ | (refine DrP.guard (d := ?_) (op := ?_) (t := ?_) (p := ?_) (a := ?_) (j := ?_) (w := ?_) (x := ?_) (b := ?_) ?ho ?hj ?hx ?hd ?_; (case ho => rfl)) | refine EvP.condB (c := ?_) ?hx ?_); (try case hj => rfl); (case hx => ((try simp only [val, get_set, get_nil, ofArgs, ofValue, Nat.reduceEqDiff, reduceIte, Option.map_some, h0, h5, hlen, f1, hcl, ieq]) <;> exact rfl)); (try case hd => rfl)))
        refine ⟨_, rfl, ?_⟩
        simp only [oneOf, get_set, Nat.reduceEqDiff, reduceIte]
        have : startsN cs = none := by
          rw [← hst, hd]
          rw [hd] at hn
          simp only [startsF, hn, Option.map_none]
        simp only [startsGift, this]
        rfl
      | succ n =>
        rw [hln, hn] at hcl
        have hst' := startsN_step hlt hn hk hst
        have w1 : wrap .i64 (Int.ofNat i + Int.ofNat (n + 1)) = .ofNat (i + (n + 1)) := by rw [show Int.ofNat i + Int.ofNat (n + 1) = Int.ofNat (i + (n + 1)) from rfl, wrap_nat .i64 _ (by simp only [half]; omega)]
        have n0 : Nat.beq (n + 1) 0 = false := rfl
        have hg : (h.new (.row [.int .i64 (.ofNat i)] 0 0)).2.get h.next = some (.row [.int .i64 (.ofNat i)] 0 0) := by simp only [hget_new, reduceIte]
        rcases hpre with ⟨rfl, h4⟩ | ⟨q, x, l, rfl, h4, hq, hqn⟩
        · have ha := app24_nil hg
          have chk_ : True := by simp only [h0, h5, h4, hlen, f1, hcl, ieq, n0, bs24, putNew_eq, ha, w1]
          clear chk_
          repeat (first | refine EvP.seq ?_ | refine EvP.region ?_ | refine OpsP.nil ?_ | refine GuardP.no ?_ | refine DGuardP.no ?_ | refine DrP.nil ?_ | refine CondP.t ?_ | refine CondP.f ?_ | refine EvP.ret ?_ | refine EvP.skip ?_ | refine EvP.exit ?_ | refine EvP.block ?_ | refine EvP.scope ?_  | ((first | refine OpsP.put (v := ?_) (h1 := ?_) ?hd ?he ?_ | refine OpsP.eff (v := ?_) (h1 := ?_) ?he ?_ | refine GuardP.yes (v := ?_) (h1 := ?_) ?he ?_  | (refine DrP.put (d := ?_) (op := ?_) (t := ?_) (p := ?_) (a := ?_) (v := ?_) (h1 := ?_) ?ho ?hd ?he ?_; (case ho => rfl)) | (refine DrP.eff (op := ?_) (t := ?_) (p := ?_) (a := ?_) (v := ?_) (h1 := ?_) ?ho ?he ?_; (case ho => rfl)) | refine DGuardP.yes (v := ?_) (h1 := ?_) ?he ?_); (try case hd => rfl); (case he => intro run; ((try simp only [evOp, evA, val, vals, oval, parts, get_set, get_nil, ofArgs, ofValue, binOpE, arith, ilt, convertE, unOpE, builtinE, callV, List.nil_append, List.append_nil, Option.bind_some, Option.map_some, Nat.reduceEqDiff, reduceIte, Bool.not_true, Bool.not_false, List.getElem?_cons_zero, List.getElem?_cons_succ, List.getElem?_toArray, Array.toList, List.mapM_cons, List.mapM_nil, Option.pure_def, Option.bind_eq_bind, h0, h5, h4, hlen, f1, hcl, ieq, n0, bs24, putNew_eq, ha, w1]) <;> exact rfl)))  | ((first | refine OpsP.guard (x := ?_) (b := ?_) ?hj ?hx ?hd ?_ | (refine DrP.guard (d := ?_) (op := ?_) (t := ?_) (p := ?_) (a := ?_) (j := ?_) (w := ?_) (x := ?_) (b := ?_) ?ho ?hj ?hx ?hd ?_; (case ho => rfl)) | refine EvP.condB (c := ?_) ?hx ?_); (try case hj => rfl); (case hx => ((try simp only [val, get_set, get_nil, ofArgs, ofValue, Nat.reduceEqDiff, reduceIte, Option.map_some, h0, h5, h4, hlen, f1, hcl, ieq, n0, bs24, putNew_eq, ha, w1]) <;> exact rfl)); (try case hd => rfl)))
          refine ⟨cs.length - (i + (n + 1)), by omega, ?_, i + (n + 1), [i], k, rfl, by omega, ?_, ?_, by omega, ?_, .inr ⟨h.next + 1, i, [], rfl, ?_, ?_, ?_⟩⟩
          · exact (by (try simp only [val, get_set, get_nil, ofArgs, ofValue, Nat.reduceEqDiff, reduceIte, Option.map_some, h0]) <;> exact rfl)
          · exact (by (try simp only [val, get_set, get_nil, ofArgs, ofValue, Nat.reduceEqDiff, reduceIte, Option.map_some]) <;> exact rfl)
          · show 1 ≤ _; omega
          · exact hst'
          · exact (by (try simp only [val, get_set, get_nil, ofArgs, ofValue, Nat.reduceEqDiff, reduceIte, Option.map_some, hnext_new]) <;> exact rfl)
          · simp only [hget_new, hnext_new, reduceIte]; rfl
          · simp only [hnext_new]; omega
        · have hq' : (h.new (.row [.int .i64 (.ofNat i)] 0 0)).2.get q = some (.row (i64s (x :: l)) l.length (wlN (l.length + 1))) := by
            rw [hget_new, if_neg (by omega), hq]
          have ha := app24_one hg hq' (m := l.length + 1) (by simp [i64s]) (by simp at hpl; omega)
          have chk_ : True := by simp only [h0, h5, h4, hlen, f1, hcl, ieq, n0, bs24, putNew_eq, ha, w1]
          clear chk_
          repeat (first | refine EvP.seq ?_ | refine EvP.region ?_ | refine OpsP.nil ?_ | refine GuardP.no ?_ | refine DGuardP.no ?_ | refine DrP.nil ?_ | refine CondP.t ?_ | refine CondP.f ?_ | refine EvP.ret ?_ | refine EvP.skip ?_ | refine EvP.exit ?_ | refine EvP.block ?_ | refine EvP.scope ?_  | ((first | refine OpsP.put (v := ?_) (h1 := ?_) ?hd ?he ?_ | refine OpsP.eff (v := ?_) (h1 := ?_) ?he ?_ | refine GuardP.yes (v := ?_) (h1 := ?_) ?he ?_  | (refine DrP.put (d := ?_) (op := ?_) (t := ?_) (p := ?_) (a := ?_) (v := ?_) (h1 := ?_) ?ho ?hd ?he ?_; (case ho => rfl)) | (refine DrP.eff (op := ?_) (t := ?_) (p := ?_) (a := ?_) (v := ?_) (h1 := ?_) ?ho ?he ?_; (case ho => rfl)) | refine DGuardP.yes (v := ?_) (h1 := ?_) ?he ?_); (try case hd => rfl); (case he => intro run; ((try simp only [evOp, evA, val, vals, oval, parts, get_set, get_nil, ofArgs, ofValue, binOpE, arith, ilt, convertE, unOpE, builtinE, callV, List.nil_append, List.append_nil, Option.bind_some, Option.map_some, Nat.reduceEqDiff, reduceIte, Bool.not_true, Bool.not_false, List.getElem?_cons_zero, List.getElem?_cons_succ, List.getElem?_toArray, Array.toList, List.mapM_cons, List.mapM_nil, Option.pure_def, Option.bind_eq_bind, h0, h5, h4, hlen, f1, hcl, ieq, n0, bs24, putNew_eq, ha, w1]) <;> exact rfl)))  | ((first | refine OpsP.guard (x := ?_) (b := ?_) ?hj ?hx ?hd ?_ | (refine DrP.guard (d := ?_) (op := ?_) (t := ?_) (p := ?_) (a := ?_) (j := ?_) (w := ?_) (x := ?_) (b := ?_) ?ho ?hj ?hx ?hd ?_; (case ho => rfl)) | refine EvP.condB (c := ?_) ?hx ?_); (try case hj => rfl); (case hx => ((try simp only [val, get_set, get_nil, ofArgs, ofValue, Nat.reduceEqDiff, reduceIte, Option.map_some, h0, h5, h4, hlen, f1, hcl, ieq, n0, bs24, putNew_eq, ha, w1]) <;> exact rfl)); (try case hd => rfl)))
          refine ⟨cs.length - (i + (n + 1)), by omega, ?_, i + (n + 1), x :: (l ++ [i]), k, rfl, by omega, ?_, ?_, by omega, ?_, .inr ⟨q, x, l ++ [i], rfl, ?_, ?_, ?_⟩⟩
          · exact (by (try simp only [val, get_set, get_nil, ofArgs, ofValue, Nat.reduceEqDiff, reduceIte, Option.map_some, h0]) <;> exact rfl)
          · exact (by (try simp only [val, get_set, get_nil, ofArgs, ofValue, Nat.reduceEqDiff, reduceIte, Option.map_some]) <;> exact rfl)
          · simp at hpl ⊢; omega
          · exact hst'
          · simp only [get_set, Nat.reduceEqDiff, reduceIte, List.length_append, List.length_singleton]
          · simp only [hget_set, reduceIte, List.length_append, List.length_singleton]
            have e1 : i64s (x :: l) ++ [LV.int .i64 (.ofNat i)] = i64s (x :: (l ++ [i])) := by simp [i64s]
            have e2 : Nat.min (match Nat.beq l.length 0 with | true => l.length + 1 | false => wlN (l.length + 1)) (l.length + 1) = wlN (l.length + 1 + 1) := by
              cases l with
              | nil => rfl
              | cons y l => simp [wlN, Nat.beq]
            rw [e1]
            exact congrArg (fun k => some (HObj.row (i64s (x :: (l ++ [i]))) (l.length + 1) k)) e2
          · simp only [hnext_set, hnext_new]; omega
    · have f1 : Nat.blt i cs.length = false := by rw [blt_eq]; simp; omega
      have : i = cs.length := by omega
      subst this
      have hst2 : startsN cs = some pre := by
        rw [← hst, List.drop_length]
        cases k <;> simp [startsF]
      have chk_ : True := by simp only [h0, h5, hlen, f1]
      clear chk_
      repeat (first | refine EvP.seq ?_ | refine EvP.region ?_ | refine OpsP.nil ?_ | refine GuardP.no ?_ | refine DGuardP.no ?_ | refine DrP.nil ?_ | refine CondP.t ?_ | refine CondP.f ?_ | refine EvP.ret ?_ | refine EvP.skip ?_ | refine EvP.exit ?_ | refine EvP.block ?_ | refine EvP.scope ?_  | ((first | refine OpsP.put (v := ?_) (h1 := ?_) ?hd ?he ?_ | refine OpsP.eff (v := ?_) (h1 := ?_) ?he ?_ | refine GuardP.yes (v := ?_) (h1 := ?_) ?he ?_  | (refine DrP.put (d := ?_) (op := ?_) (t := ?_) (p := ?_) (a := ?_) (v := ?_) (h1 := ?_) ?ho ?hd ?he ?_; (case ho => rfl)) | (refine DrP.eff (op := ?_) (t := ?_) (p := ?_) (a := ?_) (v := ?_) (h1 := ?_) ?ho ?he ?_; (case ho => rfl)) | refine DGuardP.yes (v := ?_) (h1 := ?_) ?he ?_); (try case hd => rfl); (case he => intro run; ((try simp only [evOp, evA, val, vals, oval, parts, get_set, get_nil, ofArgs, ofValue, binOpE, arith, ilt, convertE, unOpE, builtinE, callV, List.nil_append, List.append_nil, Option.bind_some, Option.map_some, Nat.reduceEqDiff, reduceIte, Bool.not_true, Bool.not_false, List.getElem?_cons_zero, List.getElem?_cons_succ, List.getElem?_toArray, Array.toList, List.mapM_cons, List.mapM_nil, Option.pure_def, Option.bind_eq_bind, h0, h5, hlen, f1]) <;> exact rfl)))  | ((first | refine OpsP.guard (x := ?_) (b := ?_) ?hj ?hx ?hd ?_ | (refine DrP.guard (d := ?_) (op := ?_) (t := ?_) (p := ?_) (a := ?_) (j := ?_) (w := ?_) (x := ?_) (b := ?_) ?ho ?hj ?hx ?hd ?_; (case ho => rfl)) | refine EvP.condB (c := ?_) ?hx ?_); (try case hj => rfl); (case hx => ((try simp only [val, get_set, get_nil, ofArgs, ofValue, Nat.reduceEqDiff, reduceIte, Option.map_some, h0, h5, hlen, f1]) <;> exact rfl)); (try case hd => rfl)))
      refine ⟨_, rfl, ?_⟩
      simp only [oneOf, get_set, Nat.reduceEqDiff, reduceIte, startsGift, hst2]
      rcases hpre with ⟨rfl, h4⟩ | ⟨q, x, l, rfl, h4, hq, hqn⟩
      · rw [h4]; rfl
      · rw [h4]
        have hb : bareV 10 (.tuple [.slice q l.length 0 (l.length + 1) none 1, .bool true]) = false := rfl
        have hr : rowOf h q = some (.row (i64s (x :: l)) l.length (wlN (l.length + 1))) := by
          have hall : (i64s (x :: l)).all (bareV 10) = true := by
            rw [List.all_eq_true]
            intro y hy
            obtain ⟨n, _, rfl⟩ := List.mem_map.1 hy
            rfl
          simp only [rowOf, hq, hall]
        have hrest : ([LV.bool true].all (bareV 10)) = true := rfl
        simp only [giftE, hb, hrest, hr, Option.map_some, intsGift]
theorem startsR_ok : PureOk Try.prog ov27 19 fStarts := pureOk_of fun vs p hp => by
  unfold fStarts at hp
  split at hp
  · rename_i cd
    obtain ⟨cs, hcd, e⟩ := mp hp
    subst e
    exact startsR_body cd cs hcd
  · cases hp
def ov28 : Ov := ov27.with 19 fStarts
theorem ov28_ok : OvOk Try.prog ov28 := Ov.with_ok prog_ok ov27_ok startsR_ok
end Go.Ev

namespace Go.Ev
open Go.Proofs
set_option linter.unusedSimpArgs false
set_option linter.unusedVariables false
set_option maxHeartbeats 4000000
/-! the document's Right of a word -/
theorem flag_le : ∀ fl, fl < 256 → flagB fl = !Nat.blt 3 fl := by decide +kernel
theorem let_le : ∀ c, c < 256 → letB c = (!Nat.blt c 33 && !Nat.blt 126 c) := by decide +kernel
def fRightR : Pure
  | [.agg [.str nm, .int .u8 (.ofNat fl), cd]] => (codeOf cd).bind fun cs => if strOk nm ∧ fl < 256 then some (none, fun _ => .bool (rightW nm fl cs.length)) else none
  | _ => none
theorem fa32_0' (b o : Nat) : fieldAddrOp Try.prog 32 (.ptr b 0 o) 0 = some (.ptr b 0 (o + 0)) := fa32_0 b o
theorem rightR_body (nm : List Nat) (fl : Nat) (cd : LV) (cs : List Nat) (hcd : codeOf cd = some cs) (hs : strOk nm) (hfl : fl < 256) : ∃ r h1, Evc Try.prog ov28 41 [.agg [.str nm, .int .u8 (.ofNat fl), cd]] Heap.empty (r, h1) ∧ r = .bool (rightW nm fl cs.length) := by
  have l0 : loadAt Try.prog 9 (.ptr 0 0 (0 + 0)) (Heap.empty.new (.row [.str nm, .int .u8 (.ofNat fl), cd] 0 0)).2 = some (.str nm) := by
    simp only [loadAt, agg9, readN, hget_new, hnext_empty, reduceIte]; rfl
  have l1 : loadAt Try.prog 5 (.ptr 0 0 (0 + 1)) (Heap.empty.new (.row [.str nm, .int .u8 (.ofNat fl), cd] 0 0)).2 = some (.int .u8 (.ofNat fl)) := by
    simp only [loadAt, agg5, readN, hget_new, hnext_empty, reduceIte]; rfl
  have l2 : loadAt Try.prog 22 (.ptr 0 0 (0 + 2)) (Heap.empty.new (.row [.str nm, .int .u8 (.ofNat fl), cd] 0 0)).2 = some cd := by
    simp only [loadAt, agg22, readN, hget_new, hnext_empty, reduceIte]; rfl
  have ln : ∀ h, lenE Try.prog 9 (.str nm) h = some (.int .i64 (.ofNat nm.length)) := fun h => by simp only [lenE, Try.underlying9]
  have hlen := code_len hcd
  have hf := flag_le fl hfl
  have hnl : nm.length < 2 ^ 62 := hs.2
  refine Evc.of rfl Try.func41 rfl rfl ?_
  by_cases b0 : nm.length < 1
  · have q0 : Nat.blt nm.length 1 = true := by rw [blt_eq]; simp [b0]
    have q0' : Nat.beq nm.length 0 = true := by rw [beq_eq, decide_eq_true_iff]; omega
    have chk_ : True := by simp only [LV.cells, putNew_eq, hnext_empty, fa32_0, fa32_1, fa32_2, l0, l1, l2, ln, hlen, q0]
    clear chk_
    repeat (first | refine EvP.seq ?_ | refine EvP.region ?_ | refine OpsP.nil ?_ | refine GuardP.no ?_ | refine DGuardP.no ?_ | refine DrP.nil ?_ | refine CondP.t ?_ | refine CondP.f ?_ | refine EvP.ret ?_ | refine EvP.skip ?_ | refine EvP.exit ?_ | refine EvP.block ?_ | refine EvP.scope ?_  | ((first | refine OpsP.put (v := ?_) (h1 := ?_) ?hd ?he ?_ | refine OpsP.eff (v := ?_) (h1 := ?_) ?he ?_ | refine GuardP.yes (v := ?_) (h1 := ?_) ?he ?_  | (refine DrP.put (d := ?_) (op := ?_) (t := ?_) (p := ?_) (a := ?_) (v := ?_) (h1 := ?_) ?ho ?hd ?he ?_; (case ho => rfl)) | (refine DrP.eff (op := ?_) (t := ?_) (p := ?_) (a := ?_) (v := ?_) (h1 := ?_) ?ho ?he ?_; (case ho => rfl)) | refine DGuardP.yes (v := ?_) (h1 := ?_) ?he ?_); (try case hd => rfl); (case he => intro run; ((try simp only [evOp, evA, val, vals, oval, parts, get_set, get_nil, ofArgs, ofValue, binOpE, arith, ilt, convertE, unOpE, builtinE, callV, List.nil_append, List.append_nil, Option.bind_some, Option.map_some, Nat.reduceEqDiff, reduceIte, Bool.not_true, Bool.not_false, List.getElem?_cons_zero, List.getElem?_cons_succ, List.getElem?_toArray, Array.toList, List.mapM_cons, List.mapM_nil, Option.pure_def, Option.bind_eq_bind, LV.cells, putNew_eq, hnext_empty, fa32_0, fa32_1, fa32_2, l0, l1, l2, ln, hlen, q0]) <;> exact rfl)))  | ((first | refine OpsP.guard (x := ?_) (b := ?_) ?hj ?hx ?hd ?_ | (refine DrP.guard (d := ?_) (op := ?_) (t := ?_) (p := ?_) (a := ?_) (j := ?_) (w := ?_) (x := ?_) (b := ?_) ?ho ?hj ?hx ?hd ?_; (case ho => rfl)) | refine EvP.condB (c := ?_) ?hx ?_); (try case hj => rfl); (case hx => ((try simp only [val, get_set, get_nil, ofArgs, ofValue, Nat.reduceEqDiff, reduceIte, Option.map_some, LV.cells, putNew_eq, hnext_empty, fa32_0, fa32_1, fa32_2, l0, l1, l2, ln, hlen, q0]) <;> exact rfl)); (try case hd => rfl))  | ((first | refine OpsP.undef (x := ?_) ?hj ?hx ?hd ?_ | (refine DrP.undef (d := ?_) (op := ?_) (t := ?_) (p := ?_) (a := ?_) (j := ?_) (w := ?_) (x := ?_) ?ho ?hj ?hx ?hd ?_; (case ho => rfl))); (case hj => rfl); (case hx => ((try simp only [val, get_set, get_nil, ofArgs, ofValue, Nat.reduceEqDiff, reduceIte, Option.map_some, LV.cells, putNew_eq, hnext_empty, fa32_0, fa32_1, fa32_2, l0, l1, l2, ln, hlen, q0]) <;> exact rfl)); (case hd => rfl)))
    refine ⟨_, rfl, ?_⟩
    simp only [oneOf, get_set, Nat.reduceEqDiff, reduceIte, rightW, q0', Bool.not_true, Bool.false_and]
  · have q0 : Nat.blt nm.length 1 = false := by rw [blt_eq, decide_eq_false_iff_not]; exact b0
    have q0' : Nat.beq nm.length 0 = false := by rw [beq_eq, decide_eq_false_iff_not]; omega
    cases b1 : Nat.blt 31 nm.length with
    | true =>
      have chk_ : True := by simp only [LV.cells, putNew_eq, hnext_empty, fa32_0, fa32_1, fa32_2, l0, l1, l2, ln, hlen, q0, b1]
      clear chk_
      repeat (first | refine EvP.seq ?_ | refine EvP.region ?_ | refine OpsP.nil ?_ | refine GuardP.no ?_ | refine DGuardP.no ?_ | refine DrP.nil ?_ | refine CondP.t ?_ | refine CondP.f ?_ | refine EvP.ret ?_ | refine EvP.skip ?_ | refine EvP.exit ?_ | refine EvP.block ?_ | refine EvP.scope ?_  | ((first | refine OpsP.put (v := ?_) (h1 := ?_) ?hd ?he ?_ | refine OpsP.eff (v := ?_) (h1 := ?_) ?he ?_ | refine GuardP.yes (v := ?_) (h1 := ?_) ?he ?_  | (refine DrP.put (d := ?_) (op := ?_) (t := ?_) (p := ?_) (a := ?_) (v := ?_) (h1 := ?_) ?ho ?hd ?he ?_; (case ho => rfl)) | (refine DrP.eff (op := ?_) (t := ?_) (p := ?_) (a := ?_) (v := ?_) (h1 := ?_) ?ho ?he ?_; (case ho => rfl)) | refine DGuardP.yes (v := ?_) (h1 := ?_) ?he ?_); (try case hd => rfl); (case he => intro run; ((try simp only [evOp, evA, val, vals, oval, parts, get_set, get_nil, ofArgs, ofValue, binOpE, arith, ilt, convertE, unOpE, builtinE, callV, List.nil_append, List.append_nil, Option.bind_some, Option.map_some, Nat.reduceEqDiff, reduceIte, Bool.not_true, Bool.not_false, List.getElem?_cons_zero, List.getElem?_cons_succ, List.getElem?_toArray, Array.toList, List.mapM_cons, List.mapM_nil, Option.pure_def, Option.bind_eq_bind, LV.cells, putNew_eq, hnext_empty, fa32_0, fa32_1, fa32_2, l0, l1, l2, ln, hlen, q0, b1]) <;> exact rfl)))  | ((first | refine OpsP.guard (x := ?_) (b := ?_) ?hj ?hx ?hd ?_ | (refine DrP.guard (d := ?_) (op := ?_) (t := ?_) (p := ?_) (a := ?_) (j := ?_) (w := ?_) (x := ?_) (b := ?_) ?ho ?hj ?hx ?hd ?_; (case ho => rfl)) | refine EvP.condB (c := ?_) ?hx ?_); (try case hj => rfl); (case hx => ((try simp only [val, get_set, get_nil, ofArgs, ofValue, Nat.reduceEqDiff, reduceIte, Option.map_some, LV.cells, putNew_eq, hnext_empty, fa32_0, fa32_1, fa32_2, l0, l1, l2, ln, hlen, q0, b1]) <;> exact rfl)); (try case hd => rfl))  | ((first | refine OpsP.undef (x := ?_) ?hj ?hx ?hd ?_ | (refine DrP.undef (d := ?_) (op := ?_) (t := ?_) (p := ?_) (a := ?_) (j := ?_) (w := ?_) (x := ?_) ?ho ?hj ?hx ?hd ?_; (case ho => rfl))); (case hj => rfl); (case hx => ((try simp only [val, get_set, get_nil, ofArgs, ofValue, Nat.reduceEqDiff, reduceIte, Option.map_some, LV.cells, putNew_eq, hnext_empty, fa32_0, fa32_1, fa32_2, l0, l1, l2, ln, hlen, q0, b1]) <;> exact rfl)); (case hd => rfl)))
      refine ⟨_, rfl, ?_⟩
      simp only [oneOf, get_set, Nat.reduceEqDiff, reduceIte, rightW, b1, Bool.not_true, Bool.false_and, Bool.and_false]
    | false =>
      cases b2 : Nat.blt 3 fl with
      | true =>
        have chk_ : True := by simp only [LV.cells, putNew_eq, hnext_empty, fa32_0, fa32_1, fa32_2, l0, l1, l2, ln, hlen, q0, b1, b2]
        clear chk_
        repeat (first | refine EvP.seq ?_ | refine EvP.region ?_ | refine OpsP.nil ?_ | refine GuardP.no ?_ | refine DGuardP.no ?_ | refine DrP.nil ?_ | refine CondP.t ?_ | refine CondP.f ?_ | refine EvP.ret ?_ | refine EvP.skip ?_ | refine EvP.exit ?_ | refine EvP.block ?_ | refine EvP.scope ?_  | ((first | refine OpsP.put (v := ?_) (h1 := ?_) ?hd ?he ?_ | refine OpsP.eff (v := ?_) (h1 := ?_) ?he ?_ | refine GuardP.yes (v := ?_) (h1 := ?_) ?he ?_  | (refine DrP.put (d := ?_) (op := ?_) (t := ?_) (p := ?_) (a := ?_) (v := ?_) (h1 := ?_) ?ho ?hd ?he ?_; (case ho => rfl)) | (refine DrP.eff (op := ?_) (t := ?_) (p := ?_) (a := ?_) (v := ?_) (h1 := ?_) ?ho ?he ?_; (case ho => rfl)) | refine DGuardP.yes (v := ?_) (h1 := ?_) ?he ?_); (try case hd => rfl); (case he => intro run; ((try simp only [evOp, evA, val, vals, oval, parts, get_set, get_nil, ofArgs, ofValue, binOpE, arith, ilt, convertE, unOpE, builtinE, callV, List.nil_append, List.append_nil, Option.bind_some, Option.map_some, Nat.reduceEqDiff, reduceIte, Bool.not_true, Bool.not_false, List.getElem?_cons_zero, List.getElem?_cons_succ, List.getElem?_toArray, Array.toList, List.mapM_cons, List.mapM_nil, Option.pure_def, Option.bind_eq_bind, LV.cells, putNew_eq, hnext_empty, fa32_0, fa32_1, fa32_2, l0, l1, l2, ln, hlen, q0, b1, b2]) <;> exact rfl)))  | ((first | refine OpsP.guard (x := ?_) (b := ?_) ?hj ?hx ?hd ?_ | (refine DrP.guard (d := ?_) (op := ?_) (t := ?_) (p := ?_) (a := ?_) (j := ?_) (w := ?_) (x := ?_) (b := ?_) ?ho ?hj ?hx ?hd ?_; (case ho => rfl)) | refine EvP.condB (c := ?_) ?hx ?_); (try case hj => rfl); (case hx => ((try simp only [val, get_set, get_nil, ofArgs, ofValue, Nat.reduceEqDiff, reduceIte, Option.map_some, LV.cells, putNew_eq, hnext_empty, fa32_0, fa32_1, fa32_2, l0, l1, l2, ln, hlen, q0, b1, b2]) <;> exact rfl)); (try case hd => rfl))  | ((first | refine OpsP.undef (x := ?_) ?hj ?hx ?hd ?_ | (refine DrP.undef (d := ?_) (op := ?_) (t := ?_) (p := ?_) (a := ?_) (j := ?_) (w := ?_) (x := ?_) ?ho ?hj ?hx ?hd ?_; (case ho => rfl))); (case hj => rfl); (case hx => ((try simp only [val, get_set, get_nil, ofArgs, ofValue, Nat.reduceEqDiff, reduceIte, Option.map_some, LV.cells, putNew_eq, hnext_empty, fa32_0, fa32_1, fa32_2, l0, l1, l2, ln, hlen, q0, b1, b2]) <;> exact rfl)); (case hd => rfl)))
        refine ⟨_, rfl, ?_⟩
        simp only [oneOf, get_set, Nat.reduceEqDiff, reduceIte, rightW, hf, b2, Bool.not_true, Bool.false_and, Bool.and_false]
      | false =>
        cases b3 : Nat.blt 1000 cs.length with
        | true =>
          have chk_ : True := by simp only [LV.cells, putNew_eq, hnext_empty, fa32_0, fa32_1, fa32_2, l0, l1, l2, ln, hlen, q0, b1, b2, b3]
          clear chk_
          repeat (first | refine EvP.seq ?_ | refine EvP.region ?_ | refine OpsP.nil ?_ | refine GuardP.no ?_ | refine DGuardP.no ?_ | refine DrP.nil ?_ | refine CondP.t ?_ | refine CondP.f ?_ | refine EvP.ret ?_ | refine EvP.skip ?_ | refine EvP.exit ?_ | refine EvP.block ?_ | refine EvP.scope ?_  | ((first | refine OpsP.put (v := ?_) (h1 := ?_) ?hd ?he ?_ | refine OpsP.eff (v := ?_) (h1 := ?_) ?he ?_ | refine GuardP.yes (v := ?_) (h1 := ?_) ?he ?_  | (refine DrP.put (d := ?_) (op := ?_) (t := ?_) (p := ?_) (a := ?_) (v := ?_) (h1 := ?_) ?ho ?hd ?he ?_; (case ho => rfl)) | (refine DrP.eff (op := ?_) (t := ?_) (p := ?_) (a := ?_) (v := ?_) (h1 := ?_) ?ho ?he ?_; (case ho => rfl)) | refine DGuardP.yes (v := ?_) (h1 := ?_) ?he ?_); (try case hd => rfl); (case he => intro run; ((try simp only [evOp, evA, val, vals, oval, parts, get_set, get_nil, ofArgs, ofValue, binOpE, arith, ilt, convertE, unOpE, builtinE, callV, List.nil_append, List.append_nil, Option.bind_some, Option.map_some, Nat.reduceEqDiff, reduceIte, Bool.not_true, Bool.not_false, List.getElem?_cons_zero, List.getElem?_cons_succ, List.getElem?_toArray, Array.toList, List.mapM_cons, List.mapM_nil, Option.pure_def, Option.bind_eq_bind, LV.cells, putNew_eq, hnext_empty, fa32_0, fa32_1, fa32_2, l0, l1, l2, ln, hlen, q0, b1, b2, b3]) <;> exact rfl)))  | ((first | refine OpsP.guard (x := ?_) (b := ?_) ?hj ?hx ?hd ?_ | (refine DrP.guard (d := ?_) (op := ?_) (t := ?_) (p := ?_) (a := ?_) (j := ?_) (w := ?_) (x := ?_) (b := ?_) ?ho ?hj ?hx ?hd ?_; (case ho => rfl)) | refine EvP.condB (c := ?_) ?hx ?_); (try case hj => rfl); (case hx => ((try simp only [val, get_set, get_nil, ofArgs, ofValue, Nat.reduceEqDiff, reduceIte, Option.map_some, LV.cells, putNew_eq, hnext_empty, fa32_0, fa32_1, fa32_2, l0, l1, l2, ln, hlen, q0, b1, b2, b3]) <;> exact rfl)); (try case hd => rfl))  | ((first | refine OpsP.undef (x := ?_) ?hj ?hx ?hd ?_ | (refine DrP.undef (d := ?_) (op := ?_) (t := ?_) (p := ?_) (a := ?_) (j := ?_) (w := ?_) (x := ?_) ?ho ?hj ?hx ?hd ?_; (case ho => rfl))); (case hj => rfl); (case hx => ((try simp only [val, get_set, get_nil, ofArgs, ofValue, Nat.reduceEqDiff, reduceIte, Option.map_some, LV.cells, putNew_eq, hnext_empty, fa32_0, fa32_1, fa32_2, l0, l1, l2, ln, hlen, q0, b1, b2, b3]) <;> exact rfl)); (case hd => rfl)))
          refine ⟨_, rfl, ?_⟩
          simp only [oneOf, get_set, Nat.reduceEqDiff, reduceIte, rightW, b3, Bool.not_true, Bool.false_and, Bool.and_false]
        | false =>
          have chk_ : True := by simp only [LV.cells, putNew_eq, hnext_empty, fa32_0, fa32_1, fa32_2, l0, l1, l2, ln, hlen, q0, b1, b2, b3]
          clear chk_
          repeat (first | refine EvP.seq ?_ | refine EvP.region ?_ | refine OpsP.nil ?_ | refine GuardP.no ?_ | refine DGuardP.no ?_ | refine DrP.nil ?_ | refine CondP.t ?_ | refine CondP.f ?_ | refine EvP.ret ?_ | refine EvP.skip ?_ | refine EvP.exit ?_ | refine EvP.block ?_ | refine EvP.scope ?_  | ((first | refine OpsP.put (v := ?_) (h1 := ?_) ?hd ?he ?_ | refine OpsP.eff (v := ?_) (h1 := ?_) ?he ?_ | refine GuardP.yes (v := ?_) (h1 := ?_) ?he ?_  | (refine DrP.put (d := ?_) (op := ?_) (t := ?_) (p := ?_) (a := ?_) (v := ?_) (h1 := ?_) ?ho ?hd ?he ?_; (case ho => rfl)) | (refine DrP.eff (op := ?_) (t := ?_) (p := ?_) (a := ?_) (v := ?_) (h1 := ?_) ?ho ?he ?_; (case ho => rfl)) | refine DGuardP.yes (v := ?_) (h1 := ?_) ?he ?_); (try case hd => rfl); (case he => intro run; ((try simp only [evOp, evA, val, vals, oval, parts, get_set, get_nil, ofArgs, ofValue, binOpE, arith, ilt, convertE, unOpE, builtinE, callV, List.nil_append, List.append_nil, Option.bind_some, Option.map_some, Nat.reduceEqDiff, reduceIte, Bool.not_true, Bool.not_false, List.getElem?_cons_zero, List.getElem?_cons_succ, List.getElem?_toArray, Array.toList, List.mapM_cons, List.mapM_nil, Option.pure_def, Option.bind_eq_bind, LV.cells, putNew_eq, hnext_empty, fa32_0, fa32_1, fa32_2, l0, l1, l2, ln, hlen, q0, b1, b2, b3]) <;> exact rfl)))  | ((first | refine OpsP.guard (x := ?_) (b := ?_) ?hj ?hx ?hd ?_ | (refine DrP.guard (d := ?_) (op := ?_) (t := ?_) (p := ?_) (a := ?_) (j := ?_) (w := ?_) (x := ?_) (b := ?_) ?ho ?hj ?hx ?hd ?_; (case ho => rfl)) | refine EvP.condB (c := ?_) ?hx ?_); (try case hj => rfl); (case hx => ((try simp only [val, get_set, get_nil, ofArgs, ofValue, Nat.reduceEqDiff, reduceIte, Option.map_some, LV.cells, putNew_eq, hnext_empty, fa32_0, fa32_1, fa32_2, l0, l1, l2, ln, hlen, q0, b1, b2, b3]) <;> exact rfl)); (try case hd => rfl))  | ((first | refine OpsP.undef (x := ?_) ?hj ?hx ?hd ?_ | (refine DrP.undef (d := ?_) (op := ?_) (t := ?_) (p := ?_) (a := ?_) (j := ?_) (w := ?_) (x := ?_) ?ho ?hj ?hx ?hd ?_; (case ho => rfl))); (case hj => rfl); (case hx => ((try simp only [val, get_set, get_nil, ofArgs, ofValue, Nat.reduceEqDiff, reduceIte, Option.map_some, LV.cells, putNew_eq, hnext_empty, fa32_0, fa32_1, fa32_2, l0, l1, l2, ln, hlen, q0, b1, b2, b3]) <;> exact rfl)); (case hd => rfl)))
          have hrw : rightW nm fl cs.length = nm.all letB := by simp only [rightW, q0', b1, hf, b2, b3, Bool.not_false, Bool.true_and]
          rw [hrw]
          refine EvP.loop (fun m tm h => h = (Heap.empty.new (.row [.str nm, .int .u8 (.ofNat fl), cd] 0 0)).2 ∧ tm.get 1 = .ptr 0 0 0 ∧
            ∃ i, m = nm.length - i ∧ i ≤ nm.length ∧ tm.get 3 = .int .i64 (.ofNat i) ∧ (nm.drop i).all letB = nm.all letB) nm.length ?_ ?_
          · refine ⟨rfl, ?_, 0, rfl, by omega, ?_, rfl⟩
            · exact (by (try simp only [val, get_set, get_nil, ofArgs, ofValue, Nat.reduceEqDiff, reduceIte, Option.map_some]) <;> exact rfl)
            · exact (by (try simp only [val, get_set, get_nil, ofArgs, ofValue, Nat.reduceEqDiff, reduceIte, Option.map_some]) <;> exact rfl)
          · rintro m tm h ⟨rfl, h1, i, rfl, hi, h3, hall⟩
            by_cases hlt : i < nm.length
            · have f1 : Nat.blt i nm.length = true := by rw [blt_eq]; simp; omega
              have da : nm.drop i = nm[i] :: nm.drop (i + 1) := List.drop_eq_getElem_cons hlt
              have hle := let_le nm[i] (hs.1 _ (List.getElem_mem hlt))
              rw [da, List.all_cons] at hall
              generalize nm[i] = c at *
              cases c1 : Nat.blt c 33 with
              | true =>
                have chk_ : True := by simp only [LV.cells, fa32_0, l0, ln, h1, h3, f1, Try.underlying9, indexOp, asNat?, da, c1]
                clear chk_
                repeat (first | refine EvP.seq ?_ | refine EvP.region ?_ | refine OpsP.nil ?_ | refine GuardP.no ?_ | refine DGuardP.no ?_ | refine DrP.nil ?_ | refine CondP.t ?_ | refine CondP.f ?_ | refine EvP.ret ?_ | refine EvP.skip ?_ | refine EvP.exit ?_ | refine EvP.block ?_ | refine EvP.scope ?_  | ((first | refine OpsP.put (v := ?_) (h1 := ?_) ?hd ?he ?_ | refine OpsP.eff (v := ?_) (h1 := ?_) ?he ?_ | refine GuardP.yes (v := ?_) (h1 := ?_) ?he ?_  | (refine DrP.put (d := ?_) (op := ?_) (t := ?_) (p := ?_) (a := ?_) (v := ?_) (h1 := ?_) ?ho ?hd ?he ?_; (case ho => rfl)) | (refine DrP.eff (op := ?_) (t := ?_) (p := ?_) (a := ?_) (v := ?_) (h1 := ?_) ?ho ?he ?_; (case ho => rfl)) | refine DGuardP.yes (v := ?_) (h1 := ?_) ?he ?_); (try case hd => rfl); (case he => intro run; ((try simp only [evOp, evA, val, vals, oval, parts, get_set, get_nil, ofArgs, ofValue, binOpE, arith, ilt, convertE, unOpE, builtinE, callV, List.nil_append, List.append_nil, Option.bind_some, Option.map_some, Nat.reduceEqDiff, reduceIte, Bool.not_true, Bool.not_false, List.getElem?_cons_zero, List.getElem?_cons_succ, List.getElem?_toArray, Array.toList, List.mapM_cons, List.mapM_nil, Option.pure_def, Option.bind_eq_bind, LV.cells, fa32_0, l0, ln, h1, h3, f1, Try.underlying9, indexOp, asNat?, da, c1]) <;> exact rfl)))  | ((first | refine OpsP.guard (x := ?_) (b := ?_) ?hj ?hx ?hd ?_ | (refine DrP.guard (d := ?_) (op := ?_) (t := ?_) (p := ?_) (a := ?_) (j := ?_) (w := ?_) (x := ?_) (b := ?_) ?ho ?hj ?hx ?hd ?_; (case ho => rfl)) | refine EvP.condB (c := ?_) ?hx ?_); (try case hj => rfl); (case hx => ((try simp only [val, get_set, get_nil, ofArgs, ofValue, Nat.reduceEqDiff, reduceIte, Option.map_some, LV.cells, fa32_0, l0, ln, h1, h3, f1, Try.underlying9, indexOp, asNat?, da, c1]) <;> exact rfl)); (try case hd => rfl))  | ((first | refine OpsP.undef (x := ?_) ?hj ?hx ?hd ?_ | (refine DrP.undef (d := ?_) (op := ?_) (t := ?_) (p := ?_) (a := ?_) (j := ?_) (w := ?_) (x := ?_) ?ho ?hj ?hx ?hd ?_; (case ho => rfl))); (case hj => rfl); (case hx => ((try simp only [val, get_set, get_nil, ofArgs, ofValue, Nat.reduceEqDiff, reduceIte, Option.map_some, LV.cells, fa32_0, l0, ln, h1, h3, f1, Try.underlying9, indexOp, asNat?, da, c1]) <;> exact rfl)); (case hd => rfl)))
                refine ⟨_, rfl, ?_⟩
                simp only [oneOf, get_set, Nat.reduceEqDiff, reduceIte]
                rw [← hall, hle, c1]; rfl
              | false =>
                cases c2 : Nat.blt 126 c with
                | true =>
                  have chk_ : True := by simp only [LV.cells, fa32_0, l0, ln, h1, h3, f1, Try.underlying9, indexOp, asNat?, da, c1, c2]
                  clear chk_
                  repeat (first | refine EvP.seq ?_ | refine EvP.region ?_ | refine OpsP.nil ?_ | refine GuardP.no ?_ | refine DGuardP.no ?_ | refine DrP.nil ?_ | refine CondP.t ?_ | refine CondP.f ?_ | refine EvP.ret ?_ | refine EvP.skip ?_ | refine EvP.exit ?_ | refine EvP.block ?_ | refine EvP.scope ?_  | ((first | refine OpsP.put (v := ?_) (h1 := ?_) ?hd ?he ?_ | refine OpsP.eff (v := ?_) (h1 := ?_) ?he ?_ | refine GuardP.yes (v := ?_) (h1 := ?_) ?he ?_  | (refine DrP.put (d := ?_) (op := ?_) (t := ?_) (p := ?_) (a := ?_) (v := ?_) (h1 := ?_) ?ho ?hd ?he ?_; (case ho => rfl)) | (refine DrP.eff (op := ?_) (t := ?_) (p := ?_) (a := ?_) (v := ?_) (h1 := ?_) ?ho ?he ?_; (case ho => rfl)) | refine DGuardP.yes (v := ?_) (h1 := ?_) ?he ?_); (try case hd => rfl); (case he => intro run; ((try simp only [evOp, evA, val, vals, oval, parts, get_set, get_nil, ofArgs, ofValue, binOpE, arith, ilt, convertE, unOpE, builtinE, callV, List.nil_append, List.append_nil, Option.bind_some, Option.map_some, Nat.reduceEqDiff, reduceIte, Bool.not_true, Bool.not_false, List.getElem?_cons_zero, List.getElem?_cons_succ, List.getElem?_toArray, Array.toList, List.mapM_cons, List.mapM_nil, Option.pure_def, Option.bind_eq_bind, LV.cells, fa32_0, l0, ln, h1, h3, f1, Try.underlying9, indexOp, asNat?, da, c1, c2]) <;> exact rfl)))  | ((first | refine OpsP.guard (x := ?_) (b := ?_) ?hj ?hx ?hd ?_ | (refine DrP.guard (d := ?_) (op := ?_) (t := ?_) (p := ?_) (a := ?_) (j := ?_) (w := ?_) (x := ?_) (b := ?_) ?ho ?hj ?hx ?hd ?_; (case ho => rfl)) | refine EvP.condB (c := ?_) ?hx ?_); (try case hj => rfl); (case hx => ((try simp only [val, get_set, get_nil, ofArgs, ofValue, Nat.reduceEqDiff, reduceIte, Option.map_some, LV.cells, fa32_0, l0, ln, h1, h3, f1, Try.underlying9, indexOp, asNat?, da, c1, c2]) <;> exact rfl)); (try case hd => rfl))  | ((first | refine OpsP.undef (x := ?_) ?hj ?hx ?hd ?_ | (refine DrP.undef (d := ?_) (op := ?_) (t := ?_) (p := ?_) (a := ?_) (j := ?_) (w := ?_) (x := ?_) ?ho ?hj ?hx ?hd ?_; (case ho => rfl))); (case hj => rfl); (case hx => ((try simp only [val, get_set, get_nil, ofArgs, ofValue, Nat.reduceEqDiff, reduceIte, Option.map_some, LV.cells, fa32_0, l0, ln, h1, h3, f1, Try.underlying9, indexOp, asNat?, da, c1, c2]) <;> exact rfl)); (case hd => rfl)))
                  refine ⟨_, rfl, ?_⟩
                  simp only [oneOf, get_set, Nat.reduceEqDiff, reduceIte]
                  rw [← hall, hle, c1, c2]; rfl
                | false =>
                  have chk_ : True := by simp only [LV.cells, fa32_0, l0, ln, h1, h3, f1, Try.underlying9, indexOp, asNat?, da, c1, c2]
                  clear chk_
                  repeat (first | refine EvP.seq ?_ | refine EvP.region ?_ | refine OpsP.nil ?_ | refine GuardP.no ?_ | refine DGuardP.no ?_ | refine DrP.nil ?_ | refine CondP.t ?_ | refine CondP.f ?_ | refine EvP.ret ?_ | refine EvP.skip ?_ | refine EvP.exit ?_ | refine EvP.block ?_ | refine EvP.scope ?_  | ((first | refine OpsP.put (v := ?_) (h1 := ?_) ?hd ?he ?_ | refine OpsP.eff (v := ?_) (h1 := ?_) ?he ?_ | refine GuardP.yes (v := ?_) (h1 := ?_) ?he ?_  | (refine DrP.put (d := ?_) (op := ?_) (t := ?_) (p := ?_) (a := ?_) (v := ?_) (h1 := ?_) ?ho ?hd ?he ?_; (case ho => rfl)) | (refine DrP.eff (op := ?_) (t := ?_) (p := ?_) (a := ?_) (v := ?_) (h1 := ?_) ?ho ?he ?_; (case ho => rfl)) | refine DGuardP.yes (v := ?_) (h1 := ?_) ?he ?_); (try case hd => rfl); (case he => intro run; ((try simp only [evOp, evA, val, vals, oval, parts, get_set, get_nil, ofArgs, ofValue, binOpE, arith, ilt, convertE, unOpE, builtinE, callV, List.nil_append, List.append_nil, Option.bind_some, Option.map_some, Nat.reduceEqDiff, reduceIte, Bool.not_true, Bool.not_false, List.getElem?_cons_zero, List.getElem?_cons_succ, List.getElem?_toArray, Array.toList, List.mapM_cons, List.mapM_nil, Option.pure_def, Option.bind_eq_bind, LV.cells, fa32_0, l0, ln, h1, h3, f1, Try.underlying9, indexOp, asNat?, da, c1, c2]) <;> exact rfl)))  | ((first | refine OpsP.guard (x := ?_) (b := ?_) ?hj ?hx ?hd ?_ | (refine DrP.guard (d := ?_) (op := ?_) (t := ?_) (p := ?_) (a := ?_) (j := ?_) (w := ?_) (x := ?_) (b := ?_) ?ho ?hj ?hx ?hd ?_; (case ho => rfl)) | refine EvP.condB (c := ?_) ?hx ?_); (try case hj => rfl); (case hx => ((try simp only [val, get_set, get_nil, ofArgs, ofValue, Nat.reduceEqDiff, reduceIte, Option.map_some, LV.cells, fa32_0, l0, ln, h1, h3, f1, Try.underlying9, indexOp, asNat?, da, c1, c2]) <;> exact rfl)); (try case hd => rfl))  | ((first | refine OpsP.undef (x := ?_) ?hj ?hx ?hd ?_ | (refine DrP.undef (d := ?_) (op := ?_) (t := ?_) (p := ?_) (a := ?_) (j := ?_) (w := ?_) (x := ?_) ?ho ?hj ?hx ?hd ?_; (case ho => rfl))); (case hj => rfl); (case hx => ((try simp only [val, get_set, get_nil, ofArgs, ofValue, Nat.reduceEqDiff, reduceIte, Option.map_some, LV.cells, fa32_0, l0, ln, h1, h3, f1, Try.underlying9, indexOp, asNat?, da, c1, c2]) <;> exact rfl)); (case hd => rfl)))
                  refine ⟨nm.length - (i + 1), by omega, rfl, ?_, i + 1, rfl, by omega, ?_, ?_⟩
                  · exact (by (try simp only [val, get_set, get_nil, ofArgs, ofValue, Nat.reduceEqDiff, reduceIte, Option.map_some, h1]) <;> exact rfl)
                  · simp only [get_set, Nat.reduceEqDiff, reduceIte]
                    rw [show Int.ofNat i + 1 = Int.ofNat (i + 1) from rfl, wrap_nat .i64 (i + 1) (by simp only [half]; omega)]
                  · rw [← hall, hle, c1, c2]; rfl
            · have f1 : Nat.blt i nm.length = false := by rw [blt_eq]; simp; omega
              have chk_ : True := by simp only [LV.cells, fa32_0, l0, ln, h1, h3, f1]
              clear chk_
              repeat (first | refine EvP.seq ?_ | refine EvP.region ?_ | refine OpsP.nil ?_ | refine GuardP.no ?_ | refine DGuardP.no ?_ | refine DrP.nil ?_ | refine CondP.t ?_ | refine CondP.f ?_ | refine EvP.ret ?_ | refine EvP.skip ?_ | refine EvP.exit ?_ | refine EvP.block ?_ | refine EvP.scope ?_  | ((first | refine OpsP.put (v := ?_) (h1 := ?_) ?hd ?he ?_ | refine OpsP.eff (v := ?_) (h1 := ?_) ?he ?_ | refine GuardP.yes (v := ?_) (h1 := ?_) ?he ?_  | (refine DrP.put (d := ?_) (op := ?_) (t := ?_) (p := ?_) (a := ?_) (v := ?_) (h1 := ?_) ?ho ?hd ?he ?_; (case ho => rfl)) | (refine DrP.eff (op := ?_) (t := ?_) (p := ?_) (a := ?_) (v := ?_) (h1 := ?_) ?ho ?he ?_; (case ho => rfl)) | refine DGuardP.yes (v := ?_) (h1 := ?_) ?he ?_); (try case hd => rfl); (case he => intro run; ((try simp only [evOp, evA, val, vals, oval, parts, get_set, get_nil, ofArgs, ofValue, binOpE, arith, ilt, convertE, unOpE, builtinE, callV, List.nil_append, List.append_nil, Option.bind_some, Option.map_some, Nat.reduceEqDiff, reduceIte, Bool.not_true, Bool.not_false, List.getElem?_cons_zero, List.getElem?_cons_succ, List.getElem?_toArray, Array.toList, List.mapM_cons, List.mapM_nil, Option.pure_def, Option.bind_eq_bind, LV.cells, fa32_0, l0, ln, h1, h3, f1]) <;> exact rfl)))  | ((first | refine OpsP.guard (x := ?_) (b := ?_) ?hj ?hx ?hd ?_ | (refine DrP.guard (d := ?_) (op := ?_) (t := ?_) (p := ?_) (a := ?_) (j := ?_) (w := ?_) (x := ?_) (b := ?_) ?ho ?hj ?hx ?hd ?_; (case ho => rfl)) | refine EvP.condB (c := ?_) ?hx ?_); (try case hj => rfl); (case hx => ((try simp only [val, get_set, get_nil, ofArgs, ofValue, Nat.reduceEqDiff, reduceIte, Option.map_some, LV.cells, fa32_0, l0, ln, h1, h3, f1]) <;> exact rfl)); (try case hd => rfl))  | ((first | refine OpsP.undef (x := ?_) ?hj ?hx ?hd ?_ | (refine DrP.undef (d := ?_) (op := ?_) (t := ?_) (p := ?_) (a := ?_) (j := ?_) (w := ?_) (x := ?_) ?ho ?hj ?hx ?hd ?_; (case ho => rfl))); (case hj => rfl); (case hx => ((try simp only [val, get_set, get_nil, ofArgs, ofValue, Nat.reduceEqDiff, reduceIte, Option.map_some, LV.cells, fa32_0, l0, ln, h1, h3, f1]) <;> exact rfl)); (case hd => rfl)))
              refine ⟨_, rfl, ?_⟩
              simp only [oneOf, get_set, Nat.reduceEqDiff, reduceIte]
              rw [← hall, List.drop_eq_nil_of_le (by omega)]
              rfl
theorem rightR_ok : PureOk Try.prog ov28 41 fRightR := pureOk_of fun vs p hp => by
  unfold fRightR at hp
  split at hp
  · rename_i nm fl cd
    obtain ⟨cs, hcd, hp⟩ := bnd hp
    split at hp
    · rename_i hc
      cases hp
      obtain ⟨r, h1, k1, rfl⟩ := rightR_body nm fl cd cs hcd hc.1 hc.2
      exact ⟨_, h1, k1, rfl⟩
    · cases hp
  · cases hp
def ov29 : Ov := ov28.with 41 fRightR
theorem ov29_ok : OvOk Try.prog ov29 := Ov.with_ok prog_ok ov28_ok rightR_ok
/-! start -/
def fStart : Pure
  | [cd, .int .u32 (.ofNat x)] => (codeOf cd).bind fun cs => if cs.length < 4294967296 then some (none, fun _ => .bool (decide (x ∈ (startsN cs).getD []))) else none
  | _ => none
theorem call29_19 (run : Run) {h : Heap} {cd : LV} {cs : List Nat} (hc : CodeV h cd cs) : callE Try.prog ov29 run 19 [cd] h = some (putGift h (startsGift cs)) := by
  obtain ⟨v, h1, h2⟩ := hc
  show pureCall fStarts _ h = _
  rw [pure1 h1]
  simp only [fStarts, h2, Option.map_some]
theorem start_body (cd : LV) (cs : List Nat) (hcd : codeOf cd = some cs) (hl : cs.length < 4294967296) (x : Nat) : ∃ r h1, Evc Try.prog ov29 43 [cd, .int .u32 (.ofNat x)] Heap.empty (r, h1) ∧ r = .bool (decide (x ∈ (startsN cs).getD [])) := by
  obtain ⟨sl, ok, h1, hput, hn1, hk1, hb1, hsp⟩ := startsGift_own cs Heap.empty
  have hc := fun run => (call29_19 run (codeV_of hcd Heap.empty)).trans (congrArg some hput)
  have key : ∃ L, (startsN cs).getD [] = L ∧ Own h1 1 sl L.length (i64s L) ∧ ∀ y ∈ L, y < 4294967296 := by
    cases hs : startsN cs with
    | none => rw [hs] at hsp; obtain ⟨_, rfl⟩ := hsp; exact ⟨[], rfl, .nils, by simp⟩
    | some L =>
      rw [hs] at hsp
      exact ⟨L, rfl, hsp.2, fun y hy => by have := startsF_lt _ _ _ _ hs y hy; omega⟩
  obtain ⟨L, hL, ho, hLb⟩ := key
  rw [hL]
  have hll := own_len ho
  have hLl : L.length < 2 ^ 62 := by
    have h3 : L.length ≤ cs.length := by
      rw [← hL]
      cases hs : startsN cs with
      | none => simp
      | some L => exact startsN_len hs
    omega
  refine Evc.of rfl Try.func43 rfl rfl ?_
  have chk_ : True := by simp only [hc]
  clear chk_
  repeat (first | refine EvP.seq ?_ | refine EvP.region ?_ | refine OpsP.nil ?_ | refine GuardP.no ?_ | refine DGuardP.no ?_ | refine DrP.nil ?_ | refine CondP.t ?_ | refine CondP.f ?_ | refine EvP.ret ?_ | refine EvP.skip ?_ | refine EvP.exit ?_ | refine EvP.block ?_ | refine EvP.scope ?_  | ((first | refine OpsP.put (v := ?_) (h1 := ?_) ?hd ?he ?_ | refine OpsP.eff (v := ?_) (h1 := ?_) ?he ?_ | refine GuardP.yes (v := ?_) (h1 := ?_) ?he ?_  | (refine DrP.put (d := ?_) (op := ?_) (t := ?_) (p := ?_) (a := ?_) (v := ?_) (h1 := ?_) ?ho ?hd ?he ?_; (case ho => rfl)) | (refine DrP.eff (op := ?_) (t := ?_) (p := ?_) (a := ?_) (v := ?_) (h1 := ?_) ?ho ?he ?_; (case ho => rfl)) | refine DGuardP.yes (v := ?_) (h1 := ?_) ?he ?_); (try case hd => rfl); (case he => intro run; ((try simp only [evOp, evA, val, vals, oval, parts, get_set, get_nil, ofArgs, ofValue, binOpE, arith, ilt, convertE, unOpE, builtinE, lenE, callV, List.nil_append, List.append_nil, Option.bind_some, Option.map_some, Nat.reduceEqDiff, reduceIte, Bool.not_true, Bool.not_false, List.getElem?_cons_zero, List.getElem?_cons_succ, List.getElem?_toArray, Array.toList, List.mapM_cons, List.mapM_nil, Option.pure_def, Option.bind_eq_bind, hc]) <;> exact rfl)))  | ((first | refine OpsP.guard (x := ?_) (b := ?_) ?hj ?hx ?hd ?_ | (refine DrP.guard (d := ?_) (op := ?_) (t := ?_) (p := ?_) (a := ?_) (j := ?_) (w := ?_) (x := ?_) (b := ?_) ?ho ?hj ?hx ?hd ?_; (case ho => rfl)) | refine EvP.condB (c := ?_) ?hx ?_); (try case hj => rfl); (case hx => ((try simp only [val, get_set, get_nil, ofArgs, ofValue, Nat.reduceEqDiff, reduceIte, Option.map_some, hc]) <;> exact rfl)); (try case hd => rfl))  | ((first | refine OpsP.undef (x := ?_) ?hj ?hx ?hd ?_ | (refine DrP.undef (d := ?_) (op := ?_) (t := ?_) (p := ?_) (a := ?_) (j := ?_) (w := ?_) (x := ?_) ?ho ?hj ?hx ?hd ?_; (case ho => rfl))); (case hj => rfl); (case hx => ((try simp only [val, get_set, get_nil, ofArgs, ofValue, Nat.reduceEqDiff, reduceIte, Option.map_some, hc]) <;> exact rfl)); (case hd => rfl)))
  refine EvP.loop (fun m tm h => h = h1 ∧ tm.get 1 = .int .u32 (.ofNat x) ∧ tm.get 5 = sl ∧ ∃ i, m = L.length - i ∧ i ≤ L.length ∧ tm.get 7 = .int .i64 (.ofNat i) ∧ x ∉ L.take i) L.length ?_ ?_
  · refine ⟨rfl, ?_, ?_, 0, rfl, by omega, ?_, by simp⟩
    · exact (by (try simp only [val, get_set, get_nil, ofArgs, ofValue, Nat.reduceEqDiff, reduceIte, Option.map_some]) <;> exact rfl)
    · exact (by (try simp only [val, get_set, get_nil, ofArgs, ofValue, Nat.reduceEqDiff, reduceIte, Option.map_some]) <;> exact rfl)
    · exact (by (try simp only [val, get_set, get_nil, ofArgs, ofValue, Nat.reduceEqDiff, reduceIte, Option.map_some]) <;> exact rfl)
  · rintro m tm h ⟨rfl, g1, g5, i, rfl, hi, g7, hno⟩
    by_cases hlt : i < L.length
    · have f1 : Nat.blt i L.length = true := by rw [blt_eq]; simp [hlt]
      obtain ⟨p, hp1, hp2⟩ := own_at ho i hlt
      have hy := hLb L[i] (List.getElem_mem hlt)
      have htk : L.take (i + 1) = L.take i ++ [L[i]] := by rw [List.take_add_one, List.getElem?_eq_getElem hlt]; rfl
      have w1 : wrap .u32 (Int.ofNat L[i]) = .ofNat L[i] := wrap_u .u32 rfl _ (by simp only [pow2]; omega)
      cases hq : Nat.beq L[i] x with
      | true =>
        have chk_ : True := by simp only [g1, g5, g7, hll, f1, hp1, hp2, Try.underlying3, Try.underlying36, w1, ieq, hq]
        clear chk_
        repeat (first | refine EvP.seq ?_ | refine EvP.region ?_ | refine OpsP.nil ?_ | refine GuardP.no ?_ | refine DGuardP.no ?_ | refine DrP.nil ?_ | refine CondP.t ?_ | refine CondP.f ?_ | refine EvP.ret ?_ | refine EvP.skip ?_ | refine EvP.exit ?_ | refine EvP.block ?_ | refine EvP.scope ?_  | ((first | refine OpsP.put (v := ?_) (h1 := ?_) ?hd ?he ?_ | refine OpsP.eff (v := ?_) (h1 := ?_) ?he ?_ | refine GuardP.yes (v := ?_) (h1 := ?_) ?he ?_  | (refine DrP.put (d := ?_) (op := ?_) (t := ?_) (p := ?_) (a := ?_) (v := ?_) (h1 := ?_) ?ho ?hd ?he ?_; (case ho => rfl)) | (refine DrP.eff (op := ?_) (t := ?_) (p := ?_) (a := ?_) (v := ?_) (h1 := ?_) ?ho ?he ?_; (case ho => rfl)) | refine DGuardP.yes (v := ?_) (h1 := ?_) ?he ?_); (try case hd => rfl); (case he => intro run; ((try simp only [evOp, evA, val, vals, oval, parts, get_set, get_nil, ofArgs, ofValue, binOpE, arith, ilt, convertE, unOpE, builtinE, callV, List.nil_append, List.append_nil, Option.bind_some, Option.map_some, Nat.reduceEqDiff, reduceIte, Bool.not_true, Bool.not_false, List.getElem?_cons_zero, List.getElem?_cons_succ, List.getElem?_toArray, Array.toList, List.mapM_cons, List.mapM_nil, Option.pure_def, Option.bind_eq_bind, g1, g5, g7, hll, f1, hp1, hp2, Try.underlying3, Try.underlying36, w1, ieq, hq]) <;> exact rfl)))  | ((first | refine OpsP.guard (x := ?_) (b := ?_) ?hj ?hx ?hd ?_ | (refine DrP.guard (d := ?_) (op := ?_) (t := ?_) (p := ?_) (a := ?_) (j := ?_) (w := ?_) (x := ?_) (b := ?_) ?ho ?hj ?hx ?hd ?_; (case ho => rfl)) | refine EvP.condB (c := ?_) ?hx ?_); (try case hj => rfl); (case hx => ((try simp only [val, get_set, get_nil, ofArgs, ofValue, Nat.reduceEqDiff, reduceIte, Option.map_some, g1, g5, g7, hll, f1, hp1, hp2, Try.underlying3, Try.underlying36, w1, ieq, hq]) <;> exact rfl)); (try case hd => rfl))  | ((first | refine OpsP.undef (x := ?_) ?hj ?hx ?hd ?_ | (refine DrP.undef (d := ?_) (op := ?_) (t := ?_) (p := ?_) (a := ?_) (j := ?_) (w := ?_) (x := ?_) ?ho ?hj ?hx ?hd ?_; (case ho => rfl))); (case hj => rfl); (case hx => ((try simp only [val, get_set, get_nil, ofArgs, ofValue, Nat.reduceEqDiff, reduceIte, Option.map_some, g1, g5, g7, hll, f1, hp1, hp2, Try.underlying3, Try.underlying36, w1, ieq, hq]) <;> exact rfl)); (case hd => rfl)))
        refine ⟨_, rfl, ?_⟩
        simp only [oneOf, get_set, Nat.reduceEqDiff, reduceIte]
        rw [beq_eq, decide_eq_true_iff] at hq
        rw [decide_eq_true (hq ▸ List.getElem_mem hlt)]
      | false =>
        have chk_ : True := by simp only [g1, g5, g7, hll, f1, hp1, hp2, Try.underlying3, Try.underlying36, w1, ieq, hq]
        clear chk_
        repeat (first | refine EvP.seq ?_ | refine EvP.region ?_ | refine OpsP.nil ?_ | refine GuardP.no ?_ | refine DGuardP.no ?_ | refine DrP.nil ?_ | refine CondP.t ?_ | refine CondP.f ?_ | refine EvP.ret ?_ | refine EvP.skip ?_ | refine EvP.exit ?_ | refine EvP.block ?_ | refine EvP.scope ?_  | ((first | refine OpsP.put (v := ?_) (h1 := ?_) ?hd ?he ?_ | refine OpsP.eff (v := ?_) (h1 := ?_) ?he ?_ | refine GuardP.yes (v := ?_) (h1 := ?_) ?he ?_  | (refine DrP.put (d := ?_) (op := ?_) (t := ?_) (p := ?_) (a := ?_) (v := ?_) (h1 := ?_) ?ho ?hd ?he ?_; (case ho => rfl)) | (refine DrP.eff (op := ?_) (t := ?_) (p := ?_) (a := ?_) (v := ?_) (h1 := ?_) ?ho ?he ?_; (case ho => rfl)) | refine DGuardP.yes (v := ?_) (h1 := ?_) ?he ?_); (try case hd => rfl); (case he => intro run; ((try simp only [evOp, evA, val, vals, oval, parts, get_set, get_nil, ofArgs, ofValue, binOpE, arith, ilt, convertE, unOpE, builtinE, callV, List.nil_append, List.append_nil, Option.bind_some, Option.map_some, Nat.reduceEqDiff, reduceIte, Bool.not_true, Bool.not_false, List.getElem?_cons_zero, List.getElem?_cons_succ, List.getElem?_toArray, Array.toList, List.mapM_cons, List.mapM_nil, Option.pure_def, Option.bind_eq_bind, g1, g5, g7, hll, f1, hp1, hp2, Try.underlying3, Try.underlying36, w1, ieq, hq]) <;> exact rfl)))  | ((first | refine OpsP.guard (x := ?_) (b := ?_) ?hj ?hx ?hd ?_ | (refine DrP.guard (d := ?_) (op := ?_) (t := ?_) (p := ?_) (a := ?_) (j := ?_) (w := ?_) (x := ?_) (b := ?_) ?ho ?hj ?hx ?hd ?_; (case ho => rfl)) | refine EvP.condB (c := ?_) ?hx ?_); (try case hj => rfl); (case hx => ((try simp only [val, get_set, get_nil, ofArgs, ofValue, Nat.reduceEqDiff, reduceIte, Option.map_some, g1, g5, g7, hll, f1, hp1, hp2, Try.underlying3, Try.underlying36, w1, ieq, hq]) <;> exact rfl)); (try case hd => rfl))  | ((first | refine OpsP.undef (x := ?_) ?hj ?hx ?hd ?_ | (refine DrP.undef (d := ?_) (op := ?_) (t := ?_) (p := ?_) (a := ?_) (j := ?_) (w := ?_) (x := ?_) ?ho ?hj ?hx ?hd ?_; (case ho => rfl))); (case hj => rfl); (case hx => ((try simp only [val, get_set, get_nil, ofArgs, ofValue, Nat.reduceEqDiff, reduceIte, Option.map_some, g1, g5, g7, hll, f1, hp1, hp2, Try.underlying3, Try.underlying36, w1, ieq, hq]) <;> exact rfl)); (case hd => rfl)))
        refine ⟨L.length - (i + 1), by omega, rfl, ?_, ?_, i + 1, rfl, by omega, ?_, ?_⟩
        · exact (by (try simp only [val, get_set, get_nil, ofArgs, ofValue, Nat.reduceEqDiff, reduceIte, Option.map_some, g1]) <;> exact rfl)
        · exact (by (try simp only [val, get_set, get_nil, ofArgs, ofValue, Nat.reduceEqDiff, reduceIte, Option.map_some, g5]) <;> exact rfl)
        · simp only [get_set, Nat.reduceEqDiff, reduceIte]
          rw [show Int.ofNat i + 1 = Int.ofNat (i + 1) from rfl, wrap_nat .i64 (i + 1) (by simp only [half]; omega)]
        · rw [htk]
          rw [beq_eq, decide_eq_false_iff_not] at hq
          intro hm
          rcases List.mem_append.1 hm with hm | hm
          · exact hno hm
          · exact hq (List.mem_singleton.1 hm).symm
    · have f1 : Nat.blt L.length L.length = false := by rw [blt_eq]; simp
      have : i = L.length := by omega
      subst this
      rw [List.take_length] at hno
      have chk_ : True := by simp only [g1, g5, g7, hll, f1]
      clear chk_
      repeat (first | refine EvP.seq ?_ | refine EvP.region ?_ | refine OpsP.nil ?_ | refine GuardP.no ?_ | refine DGuardP.no ?_ | refine DrP.nil ?_ | refine CondP.t ?_ | refine CondP.f ?_ | refine EvP.ret ?_ | refine EvP.skip ?_ | refine EvP.exit ?_ | refine EvP.block ?_ | refine EvP.scope ?_  | ((first | refine OpsP.put (v := ?_) (h1 := ?_) ?hd ?he ?_ | refine OpsP.eff (v := ?_) (h1 := ?_) ?he ?_ | refine GuardP.yes (v := ?_) (h1 := ?_) ?he ?_  | (refine DrP.put (d := ?_) (op := ?_) (t := ?_) (p := ?_) (a := ?_) (v := ?_) (h1 := ?_) ?ho ?hd ?he ?_; (case ho => rfl)) | (refine DrP.eff (op := ?_) (t := ?_) (p := ?_) (a := ?_) (v := ?_) (h1 := ?_) ?ho ?he ?_; (case ho => rfl)) | refine DGuardP.yes (v := ?_) (h1 := ?_) ?he ?_); (try case hd => rfl); (case he => intro run; ((try simp only [evOp, evA, val, vals, oval, parts, get_set, get_nil, ofArgs, ofValue, binOpE, arith, ilt, convertE, unOpE, builtinE, callV, List.nil_append, List.append_nil, Option.bind_some, Option.map_some, Nat.reduceEqDiff, reduceIte, Bool.not_true, Bool.not_false, List.getElem?_cons_zero, List.getElem?_cons_succ, List.getElem?_toArray, Array.toList, List.mapM_cons, List.mapM_nil, Option.pure_def, Option.bind_eq_bind, g1, g5, g7, hll, f1]) <;> exact rfl)))  | ((first | refine OpsP.guard (x := ?_) (b := ?_) ?hj ?hx ?hd ?_ | (refine DrP.guard (d := ?_) (op := ?_) (t := ?_) (p := ?_) (a := ?_) (j := ?_) (w := ?_) (x := ?_) (b := ?_) ?ho ?hj ?hx ?hd ?_; (case ho => rfl)) | refine EvP.condB (c := ?_) ?hx ?_); (try case hj => rfl); (case hx => ((try simp only [val, get_set, get_nil, ofArgs, ofValue, Nat.reduceEqDiff, reduceIte, Option.map_some, g1, g5, g7, hll, f1]) <;> exact rfl)); (try case hd => rfl))  | ((first | refine OpsP.undef (x := ?_) ?hj ?hx ?hd ?_ | (refine DrP.undef (d := ?_) (op := ?_) (t := ?_) (p := ?_) (a := ?_) (j := ?_) (w := ?_) (x := ?_) ?ho ?hj ?hx ?hd ?_; (case ho => rfl))); (case hj => rfl); (case hx => ((try simp only [val, get_set, get_nil, ofArgs, ofValue, Nat.reduceEqDiff, reduceIte, Option.map_some, g1, g5, g7, hll, f1]) <;> exact rfl)); (case hd => rfl)))
      refine ⟨_, rfl, ?_⟩
      simp only [oneOf, get_set, Nat.reduceEqDiff, reduceIte]
      rw [decide_eq_false hno]
theorem start_ok : PureOk Try.prog ov29 43 fStart := pureOk_of fun vs p hp => by
  unfold fStart at hp
  split at hp
  · rename_i cd x
    obtain ⟨cs, hcd, hp⟩ := bnd hp
    split at hp
    · rename_i hc
      cases hp
      obtain ⟨r, h1, k1, rfl⟩ := start_body cd cs hcd hc x
      exact ⟨_, h1, k1, rfl⟩
    · cases hp
  · cases hp
def ov30 : Ov := ov29.with 43 fStart
theorem ov30_ok : OvOk Try.prog ov30 := Ov.with_ok prog_ok ov29_ok start_ok
end Go.Ev
