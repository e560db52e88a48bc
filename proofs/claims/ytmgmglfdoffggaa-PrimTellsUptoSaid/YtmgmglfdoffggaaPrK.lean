/-
  PrimTells walked by the evaluator: true for words whose codes and names are of a bounded size; no other conditions.
-/
import Derived.Test.YtmgmglfdoffggaaPrJ
import Derived.Test.YtmgmglfdoffggaaEvC
namespace Go.Ev
open Go.Proofs
set_option linter.unusedSimpArgs false
set_option linter.unusedVariables false
set_option maxHeartbeats 4000000
theorem code_shp2 {d B : Nat} {a : LV} (hB : B < 2 ^ 40) (h : Shp Try.prog B (d + 2) 22 [a]) : ∃ cs, codeOf a = some cs ∧ (∀ x ∈ cs, x < 4294967296) ∧ cs.length ≤ B := by
  obtain ⟨cs, k1, k2⟩ := code_shp hB h
  refine ⟨cs, k1, k2, ?_⟩
  simp only [Shp, under22] at h
  rcases h with h | ⟨els, h, hl, _⟩
  · cases h; cases k1; simp
  · cases h
    simp only [codeOf] at k1
    split at k1
    · rename_i hn
      have := mapM_nat _ _ k1
      have hl2 : cs.length = els.flatten.length := by rw [this]; simp [u32s]
      omega
    · cases k1
theorem words_arg2 {d B : Nat} {v : LV} (hB : B < 2 ^ 32) (h : Arg Try.prog B (d + 4) 30 v) : ∃ n, (∀ hp, lenE Try.prog 30 v hp = some (.int .i64 (.ofNat n))) ∧ (n < 1048576 → ∃ ws, wordsOf v = some ws ∧ ws.length = n ∧ lensOk ws = true) := by
  unfold Arg at h
  rw [rowT30] at h
  simp only at h
  unfold Shp at h
  rw [under30] at h
  simp only at h
  rcases h with h | ⟨els, h, hl, hels⟩
  · cases h
    exact ⟨0, fun hp => by simp only [lenE, under30, lenOf?, Option.map_some], fun _ => ⟨[], rfl, rfl, rfl⟩⟩
  · cases h
    refine ⟨els.length, fun hp => by simp only [lenE, under30, lenOf?, Option.map_some], fun hn => ?_⟩
    have : ∃ ws : List Wd, parseW els.flatten = some ws ∧ ws.length = els.length ∧ lensOk ws = true := by
      clear hl hn
      induction els with
      | nil => exact ⟨[], rfl, rfl, rfl⟩
      | cons el els ih =>
        obtain ⟨ws, h1, h2, h3⟩ := ih fun e he => hels e (List.mem_cons_of_mem _ he)
        have hel := (hels el (List.mem_cons_self ..)).2
        obtain ⟨nm, fl, cd, cs, rfl, k1, k2, k3, k4⟩ := shp_word (by omega) hel
        have hcl : cs.length ≤ B := by
          unfold Shp at hel
          rw [under32] at hel
          have f2 := hel.2 ⟨"Code", 22, 2, false, "", "", 24⟩ (by simp)
          simp only [cells22, List.drop_succ_cons, List.drop_zero, List.take_succ_cons, List.take_zero] at f2
          obtain ⟨cs', q1, _, q3⟩ := code_shp2 (by omega) f2
          rw [k1] at q1
          cases q1
          exact q3
        refine ⟨_, parse_app _ _ _ _ (parse_one k1 k2 k3 k4) h1, by simp [h2], ?_⟩
        show (decide (cs.length < 4294967296) && lensOk ws) = true
        rw [h3, decide_eq_true (by omega)]; rfl
    obtain ⟨ws, h1, h2, h3⟩ := this
    refine ⟨ws, ?_, h2, h3⟩
    simp only [wordsOf, h1, Option.bind_some]
    rw [if_pos ⟨h2, hn⟩]
/-! calls -/
theorem call33_8 (run : Run) (h : Heap) : callE Try.prog ov33 run 8 [] h = some (.bool true, h) := rfl
theorem call33_13 (run : Run) (h : Heap) (n : Nat) : callE Try.prog ov33 run 13 [.int .u32 (.ofNat n)] h = some (getN n, h) := rfl
theorem call33_14 (run : Run) (h : Heap) (n : Nat) : callE Try.prog ov33 run 14 [.int .u32 (.ofNat n)] h = some (getN n, h) := rfl
theorem named_put (s : List Nat) (hs : strOk s) (h : Heap) : (fNamed [.str s]).map (putGift h) = some (rowN (nmFrom s tab 0), h) := by
  have : fNamed [.str s] = some (none, fun _ => rowN (nmFrom s tab 0)) := by
    show (if strOk s then some (none, fun _ => rowN (nmFrom s tab 0)) else none : Option Gift) = _
    rw [if_pos hs]
  rw [this]
  rfl
theorem call33_15 (run : Run) (h : Heap) (s : List Nat) (hs : strOk s) : callE Try.prog ov33 run 15 [.str s] h = some (rowN (nmFrom s tab 0), h) := named_put s hs h
theorem call33_16 (run : Run) (h : Heap) (s : List Nat) (hs : strOk s) : callE Try.prog ov33 run 16 [.str s] h = some (rowN (nmFrom s tab 0), h) := named_put s hs h
theorem long_put (h : Heap) {cd : LV} {cs : List Nat} (hcd : codeOf cd = some cs) (at_ : Int) : pureCall fLong [cd, .int .i64 at_] h = some (.int .i64 (.ofNat (longN cs at_)), h) := by
  obtain ⟨v, h1, h2⟩ := codeV_of hcd h
  rw [pure2 h1 (rfl : freezeV h 10 (.int .i64 at_) = some (.int .i64 at_))]
  simp only [fLong, h2, Option.map_some, putGift]
theorem call33_10 (run : Run) (h : Heap) {cd : LV} {cs : List Nat} (hcd : codeOf cd = some cs) (at_ : Int) : callE Try.prog ov33 run 10 [cd, .int .i64 at_] h = some (.int .i64 (.ofNat (longN cs at_)), h) := long_put h hcd at_
theorem call33_17 (run : Run) (h : Heap) {cd : LV} {cs : List Nat} (hcd : codeOf cd = some cs) (at_ : Int) : callE Try.prog ov33 run 17 [cd, .int .i64 at_] h = some (.int .i64 (.ofNat (longN cs at_)), h) := long_put h hcd at_
theorem call33_12 (run : Run) (h : Heap) {v : LV} {ws : List Wd} (hv : wordsOf v = some ws) : callE Try.prog ov33 run 12 [v] h = some (.int .i64 (checkN ws), h) := by
  show pureCall fCheck _ h = _
  rw [pure1 (freeze_words hv h)]
  simp only [fCheck, hv, Option.map_some, putGift]
theorem call33_18 (run : Run) (h : Heap) {v : LV} {ws : List Wd} (hv : wordsOf v = some ws) (hl : lensOk ws = true) : callE Try.prog ov33 run 18 [v] h = some (.int .i64 (checkN ws), h) := by
  show pureCall fCheckR _ h = _
  rw [pure1 (freeze_words hv h)]
  simp only [fCheckR, hv, Option.bind_some, if_pos hl, Option.map_some, putGift]
theorem starts_put (h : Heap) {cd : LV} {cs : List Nat} (hcd : codeOf cd = some cs) : pureCall fStarts [cd] h = some (putGift h (startsGift cs)) := by
  obtain ⟨v, h1, h2⟩ := codeV_of hcd h
  rw [pure1 h1]
  simp only [fStarts, h2, Option.map_some]
theorem call33_9 (run : Run) (h : Heap) {cd : LV} {cs : List Nat} (hcd : codeOf cd = some cs) : callE Try.prog ov33 run 9 [cd] h = some (putGift h (startsGift cs)) := starts_put h hcd
theorem call33_19 (run : Run) (h : Heap) {cd : LV} {cs : List Nat} (hcd : codeOf cd = some cs) : callE Try.prog ov33 run 19 [cd] h = some (putGift h (startsGift cs)) := starts_put h hcd
theorem call33_20 (run : Run) (h : Heap) : callE Try.prog ov33 run 20 [] h = some (.slice h.next 112 0 113 none 7, (h.new (.row tabCells 112 7)).2) := rfl
theorem call33_21 (run : Run) (h : Heap) : callE Try.prog ov33 run 21 [] h = some (.slice h.next 112 0 113 none 7, (h.new (.row tabCells 112 7)).2) := rfl
theorem call33_11 (run : Run) {h : Heap} {a b : LV} {x y : List Nat} (ha : IntsV h a x) (hb : IntsV h b y) : callE Try.prog ov33 run 11 [a, b] h = some (.bool (listBeq x y), h) := by
  obtain ⟨v, h1, h2⟩ := ha
  obtain ⟨v', h1', h2'⟩ := hb
  show pureCall fInts _ h = _
  rw [pure2 h1 h1']
  simp only [fInts, h2, h2', Option.map_some, Option.bind_some, putGift]
theorem call33_11n (run : Run) (h : Heap) : callE Try.prog ov33 run 11 [.nils, .nils] h = some (.bool true, h) := call33_11 run (x := []) (y := []) ⟨.nils, rfl, rfl⟩ ⟨.nils, rfl, rfl⟩
theorem call33_11s (run : Run) (h : Heap) (q1 q2 x : Nat) (l : List Nat) (hl : l.length < 1000) (h1 : h.get q1 = some (.row (i64s (x :: l)) l.length (wlN (l.length + 1)))) (h2 : h.get q2 = some (.row (i64s (x :: l)) l.length (wlN (l.length + 1)))) :
    callE Try.prog ov33 run 11 [.slice q1 l.length 0 (l.length + 1) none 1, .slice q2 l.length 0 (l.length + 1) none 1] h = some (.bool true, h) := by
  have o : ∀ q, h.get q = some (.row (i64s (x :: l)) l.length (wlN (l.length + 1))) → Own h 1 (.slice q l.length 0 (l.length + 1) none 1) (l.length + 1) (i64s (x :: l)) := fun q hq =>
    .row hq (by simp [i64s]) (fun c e => by cases e) (by rw [List.drop_zero, List.take_of_length_le (by simp [i64s])])
  rw [call33_11 run ((o q1 h1).ints (by omega)) ((o q2 h2).ints (by omega)), listBeq_self]
/-- Rows that may be held against themselves. -/
structure Row39 (R : List LV) : Prop where
  len : R.length = 7
  cell : R.all LV.isCell = true
  may : eqMay Try.prog 39 (.agg R) = true
  eq : eqIn Try.prog 20 39 (.agg R) (.agg R) = some true
theorem row39_at (i : Nat) (hi : i < 113) : Row39 (rowAt i) := ⟨(rowAt_ok i hi).1, (rowAt_ok i hi).2.1, (eq39 i hi).1, (eq39 i hi).2⟩
theorem row39_no : Row39 noRow := ⟨rfl, rfl, by kernel_rfl, by kernel_rfl⟩
theorem getN_row (n : Nat) : ∃ R b, getN n = .tuple [.agg R, .bool b] ∧ Row39 R := by
  unfold getN
  rcases spotN_lt n with hn | ⟨j, hj, hn⟩
  · rw [hn]; exact ⟨noRow, false, rfl, row39_no⟩
  · rw [hn, if_pos (by exact Int.natCast_nonneg j)]
    exact ⟨_, true, rfl, row39_at j hj⟩
theorem rowN_row (s : List Nat) : ∃ R b, rowN (nmFrom s tab 0) = .tuple [.agg R, .bool b] ∧ Row39 R := by
  rcases nmFrom_lt s tab 0 with hn | ⟨i, hi, hn⟩
  · rw [hn]; exact ⟨noRow, false, rfl, row39_no⟩
  · have hi : i < 113 := by simpa [show tab.length = 113 by kernel_rfl] using hi
    rw [hn]; exact ⟨_, true, rfl, row39_at i hi⟩
theorem tells_longA (a b c d e : LV) (n : Nat) (hla : ∀ hp, lenE Try.prog 22 c hp = some (.int .i64 (.ofNat n))) (hn : 400 < n) : ∃ r h1, Evc Try.prog ov33 6 [a, b, c, d, e] Heap.empty (r, h1) ∧ r = .bool true := by
  have f1 : Nat.blt 400 n = true := by rw [blt_eq]; simp [hn]
  refine Evc.of rfl Try.func6 rfl rfl ?_
  have chk_ : True := by simp only [hla, f1, call33_8]
  clear chk_
  repeat (first | refine EvP.seq ?_ | refine EvP.region ?_ | refine OpsP.nil ?_ | refine GuardP.no ?_ | refine DGuardP.no ?_ | refine DrP.nil ?_ | refine CondP.t ?_ | refine CondP.f ?_ | refine EvP.ret ?_ | refine EvP.skip ?_ | refine EvP.exit ?_ | refine EvP.block ?_ | refine EvP.scope ?_  | ((first | refine OpsP.put (v := ?_) (h1 := ?_) ?hd ?he ?_ | refine OpsP.eff (v := ?_) (h1 := ?_) ?he ?_ | refine GuardP.yes (v := ?_) (h1 := ?_) ?he ?_  | (refine DrP.put (d := ?_) (op := ?_) (t := ?_) (p := ?_) (a := ?_) (v := ?_) (h1 := ?_) ?ho ?hd ?he ?_; (case ho => rfl)) | (refine DrP.eff (op := ?_) (t := ?_) (p := ?_) (a := ?_) (v := ?_) (h1 := ?_) ?ho ?he ?_; (case ho => rfl)) | refine DGuardP.yes (v := ?_) (h1 := ?_) ?he ?_); (try case hd => rfl); (case he => intro run; ((try simp only [evOp, evA, val, vals, oval, parts, get_set, get_nil, ofArgs, ofValue, binOpE, arith, ilt, convertE, unOpE, builtinE, callV, List.nil_append, List.append_nil, Option.bind_some, Option.map_some, Nat.reduceEqDiff, reduceIte, Bool.not_true, Bool.not_false, List.getElem?_cons_zero, List.getElem?_cons_succ, List.getElem?_toArray, Array.toList, List.mapM_cons, List.mapM_nil, Option.pure_def, Option.bind_eq_bind, hla, f1, call33_8]) <;> exact rfl)))  | ((first | refine OpsP.guard (x := ?_) (b := ?_) ?hj ?hx ?hd ?_ | (refine DrP.guard (d := ?_) (op := ?_) (t := ?_) (p := ?_) (a := ?_) (j := ?_) (w := ?_) (x := ?_) (b := ?_) ?ho ?hj ?hx ?hd ?_; (case ho => rfl)) | refine EvP.condB (c := ?_) ?hx ?_); (try case hj => rfl); (case hx => ((try simp only [val, get_set, get_nil, ofArgs, ofValue, Nat.reduceEqDiff, reduceIte, Option.map_some, hla, f1, call33_8]) <;> exact rfl)); (try case hd => rfl))  | ((first | refine OpsP.undef (x := ?_) ?hj ?hx ?hd ?_ | (refine DrP.undef (d := ?_) (op := ?_) (t := ?_) (p := ?_) (a := ?_) (j := ?_) (w := ?_) (x := ?_) ?ho ?hj ?hx ?hd ?_; (case ho => rfl))); (case hj => rfl); (case hx => ((try simp only [val, get_set, get_nil, ofArgs, ofValue, Nat.reduceEqDiff, reduceIte, Option.map_some, hla, f1, call33_8]) <;> exact rfl)); (case hd => rfl)))
  refine ⟨_, rfl, ?_⟩
  simp only [oneOf, get_set, Nat.reduceEqDiff, reduceIte]
theorem tells_longB (a b c d e : LV) (n m : Nat) (hla : ∀ hp, lenE Try.prog 22 c hp = some (.int .i64 (.ofNat n))) (hlb : ∀ hp, lenE Try.prog 30 d hp = some (.int .i64 (.ofNat m))) (hn : ¬ 400 < n) (hm : 12 < m) : ∃ r h1, Evc Try.prog ov33 6 [a, b, c, d, e] Heap.empty (r, h1) ∧ r = .bool true := by
  have f1 : Nat.blt 400 n = false := by rw [blt_eq, decide_eq_false_iff_not]; exact hn
  have f2 : Nat.blt 12 m = true := by rw [blt_eq]; simp [hm]
  refine Evc.of rfl Try.func6 rfl rfl ?_
  have chk_ : True := by simp only [hla, hlb, f1, f2, call33_8]
  clear chk_
  repeat (first | refine EvP.seq ?_ | refine EvP.region ?_ | refine OpsP.nil ?_ | refine GuardP.no ?_ | refine DGuardP.no ?_ | refine DrP.nil ?_ | refine CondP.t ?_ | refine CondP.f ?_ | refine EvP.ret ?_ | refine EvP.skip ?_ | refine EvP.exit ?_ | refine EvP.block ?_ | refine EvP.scope ?_  | ((first | refine OpsP.put (v := ?_) (h1 := ?_) ?hd ?he ?_ | refine OpsP.eff (v := ?_) (h1 := ?_) ?he ?_ | refine GuardP.yes (v := ?_) (h1 := ?_) ?he ?_  | (refine DrP.put (d := ?_) (op := ?_) (t := ?_) (p := ?_) (a := ?_) (v := ?_) (h1 := ?_) ?ho ?hd ?he ?_; (case ho => rfl)) | (refine DrP.eff (op := ?_) (t := ?_) (p := ?_) (a := ?_) (v := ?_) (h1 := ?_) ?ho ?he ?_; (case ho => rfl)) | refine DGuardP.yes (v := ?_) (h1 := ?_) ?he ?_); (try case hd => rfl); (case he => intro run; ((try simp only [evOp, evA, val, vals, oval, parts, get_set, get_nil, ofArgs, ofValue, binOpE, arith, ilt, convertE, unOpE, builtinE, callV, List.nil_append, List.append_nil, Option.bind_some, Option.map_some, Nat.reduceEqDiff, reduceIte, Bool.not_true, Bool.not_false, List.getElem?_cons_zero, List.getElem?_cons_succ, List.getElem?_toArray, Array.toList, List.mapM_cons, List.mapM_nil, Option.pure_def, Option.bind_eq_bind, hla, hlb, f1, f2, call33_8]) <;> exact rfl)))  | ((first | refine OpsP.guard (x := ?_) (b := ?_) ?hj ?hx ?hd ?_ | (refine DrP.guard (d := ?_) (op := ?_) (t := ?_) (p := ?_) (a := ?_) (j := ?_) (w := ?_) (x := ?_) (b := ?_) ?ho ?hj ?hx ?hd ?_; (case ho => rfl)) | refine EvP.condB (c := ?_) ?hx ?_); (try case hj => rfl); (case hx => ((try simp only [val, get_set, get_nil, ofArgs, ofValue, Nat.reduceEqDiff, reduceIte, Option.map_some, hla, hlb, f1, f2, call33_8]) <;> exact rfl)); (try case hd => rfl))  | ((first | refine OpsP.undef (x := ?_) ?hj ?hx ?hd ?_ | (refine DrP.undef (d := ?_) (op := ?_) (t := ?_) (p := ?_) (a := ?_) (j := ?_) (w := ?_) (x := ?_) ?ho ?hj ?hx ?hd ?_; (case ho => rfl))); (case hj => rfl); (case hx => ((try simp only [val, get_set, get_nil, ofArgs, ofValue, Nat.reduceEqDiff, reduceIte, Option.map_some, hla, hlb, f1, f2, call33_8]) <;> exact rfl)); (case hd => rfl)))
  refine ⟨_, rfl, ?_⟩
  simp only [oneOf, get_set, Nat.reduceEqDiff, reduceIte]
theorem tells_body (n : Nat) (s : List Nat) (hs : strOk s) (cd : LV) (A : List Nat) (hcd : codeOf cd = some A) (l : LV) (ws : List Wd) (hl : wordsOf l = some ws) (hlens : lensOk ws = true) (at_ : Int) (hA : ¬ 400 < A.length) (hW : ¬ 12 < ws.length) :
    ∃ r h1, Evc Try.prog ov33 6 [.int .u32 (.ofNat n), .str s, cd, l, .int .i64 at_] Heap.empty (r, h1) ∧ r = .bool true := by
  have hla := code_len hcd
  have hlb := (words_len hl).2
  have f1 : Nat.blt 400 A.length = false := by rw [blt_eq, decide_eq_false_iff_not]; exact hA
  have f2 : Nat.blt 12 ws.length = false := by rw [blt_eq, decide_eq_false_iff_not]; exact hW
  obtain ⟨R, b, hR, oR⟩ := getN_row n
  obtain ⟨S, b2, hS, oS⟩ := rowN_row s
  have stR : ∀ (h : Heap) (b : Nat), h.get b = some (.row noRow 0 0) → storeAt Try.prog 39 (.ptr b 0 0) (.agg R) h = some (h.set b (.row R 0 0)) := fun h b hb => store_fresh hb rfl oR.len oR.cell
  have stS : ∀ (h : Heap) (b : Nat), h.get b = some (.row noRow 0 0) → storeAt Try.prog 39 (.ptr b 0 0) (.agg S) h = some (h.set b (.row S 0 0)) := fun h b hb => store_fresh hb rfl oS.len oS.cell
  have ldR : ∀ (h : Heap) (b : Nat), h.get b = some (.row R 0 0) → loadAt Try.prog 39 (.ptr b 0 0) h = some (.agg R) := fun h b hb => load_row hb oR.len
  have ldS : ∀ (h : Heap) (b : Nat), h.get b = some (.row S 0 0) → loadAt Try.prog 39 (.ptr b 0 0) h = some (.agg S) := fun h b hb => load_row hb oS.len
  have c15 := fun run h => call33_15 run h s hs
  have c16 := fun run h => call33_16 run h s hs
  have c10 := fun run h => call33_10 run h hcd at_
  have c17 := fun run h => call33_17 run h hcd at_
  have c12 := fun run h => call33_12 run h hl
  have c18 := fun run h => call33_18 run h hl hlens
  have c9 := fun run h => call33_9 run h hcd
  have c19 := fun run h => call33_19 run h hcd
  have bb : ∀ x : Bool, (x == x) = true := fun x => by cases x <;> rfl
  have ii : ∀ x : Int, ieq x x = true := fun x => by cases x <;> (show Nat.beq _ _ = true; rw [beq_eq]; simp)
  have ln : ∀ (b : Nat) (h : Heap), lenE Try.prog 43 (.slice b 112 0 113 none 7) h = some (.int .i64 (.ofNat 113)) := fun b h => by
    have hu : Try.prog.underlying 43 = some (.slice 39) := by kernel_rfl
    simp only [lenE, hu, lenOf?, Option.map_some]
  have htab39 : ∀ (h : Heap) (b : Nat), h.get b = some (.row tabCells 112 7) → ∀ i, i < 113 → loadAt Try.prog 39 (.ptr b 112 (i * 7)) h = some (.agg (rowAt i)) := fun h b hh i hi => by
    have e2 : Nat.ble (i * 7 + 7) tabCells.length = true := by rw [ble_eq, tab_len]; simp; omega
    simp only [loadAt, agg39, sz39, Option.bind_some, readN, hh, isHi, Nat.beq, e2, Bool.and_self, Option.map_some, rowAt]
  refine Evc.of rfl Try.func6 rfl rfl ?_
  have chk_ : True := by simp only [hla, hlb, f1, f2, call33_13, call33_14, hR, c15, c16, hS, zero39, LV.cells, putNew_eq, hnext_empty, hnext_new, hnext_set, Nat.reduceAdd, hget_new, hget_set, Nat.reduceEqDiff, reduceIte, stR, stS, ldR, ldS, oR.may, oR.eq, oS.may, oS.eq, em4, ei4, bb, ii, c10, c17, c12, c18, ln]
  clear chk_
  repeat (first | refine EvP.seq ?_ | refine EvP.region ?_ | refine OpsP.nil ?_ | refine GuardP.no ?_ | refine DGuardP.no ?_ | refine DrP.nil ?_ | refine CondP.t ?_ | refine CondP.f ?_ | refine EvP.ret ?_ | refine EvP.skip ?_ | refine EvP.exit ?_ | refine EvP.block ?_ | refine EvP.scope ?_  | ((first | refine OpsP.put (v := ?_) (h1 := ?_) ?hd ?he ?_ | refine OpsP.eff (v := ?_) (h1 := ?_) ?he ?_ | refine GuardP.yes (v := ?_) (h1 := ?_) ?he ?_  | (refine DrP.put (d := ?_) (op := ?_) (t := ?_) (p := ?_) (a := ?_) (v := ?_) (h1 := ?_) ?ho ?hd ?he ?_; (case ho => rfl)) | (refine DrP.eff (op := ?_) (t := ?_) (p := ?_) (a := ?_) (v := ?_) (h1 := ?_) ?ho ?he ?_; (case ho => rfl)) | refine DGuardP.yes (v := ?_) (h1 := ?_) ?he ?_); (try case hd => rfl); (case he => intro run; ((try simp only [evOp, evA, val, vals, oval, parts, get_set, get_nil, ofArgs, ofValue, binOpE, arith, ilt, convertE, unOpE, builtinE, callV, List.nil_append, List.append_nil, Option.bind_some, Option.map_some, Nat.reduceEqDiff, reduceIte, Bool.not_true, Bool.not_false, List.getElem?_cons_zero, List.getElem?_cons_succ, List.getElem?_toArray, Array.toList, List.mapM_cons, List.mapM_nil, Option.pure_def, Option.bind_eq_bind, hla, hlb, f1, f2, call33_13, call33_14, hR, c15, c16, hS, zero39, LV.cells, putNew_eq, hnext_empty, hnext_new, hnext_set, Nat.reduceAdd, hget_new, hget_set, Nat.reduceEqDiff, reduceIte, stR, stS, ldR, ldS, oR.may, oR.eq, oS.may, oS.eq, em4, ei4, bb, ii, c10, c17, c12, c18, ln]) <;> exact rfl)))  | ((first | refine OpsP.guard (x := ?_) (b := ?_) ?hj ?hx ?hd ?_ | (refine DrP.guard (d := ?_) (op := ?_) (t := ?_) (p := ?_) (a := ?_) (j := ?_) (w := ?_) (x := ?_) (b := ?_) ?ho ?hj ?hx ?hd ?_; (case ho => rfl)) | refine EvP.condB (c := ?_) ?hx ?_); (try case hj => rfl); (case hx => ((try simp only [val, get_set, get_nil, ofArgs, ofValue, Nat.reduceEqDiff, reduceIte, Option.map_some, hla, hlb, f1, f2, call33_13, call33_14, hR, c15, c16, hS, zero39, LV.cells, putNew_eq, hnext_empty, hnext_new, hnext_set, Nat.reduceAdd, hget_new, hget_set, Nat.reduceEqDiff, reduceIte, stR, stS, ldR, ldS, oR.may, oR.eq, oS.may, oS.eq, em4, ei4, bb, ii, c10, c17, c12, c18, ln]) <;> exact rfl)); (try case hd => rfl))  | ((first | refine OpsP.undef (x := ?_) ?hj ?hx ?hd ?_ | (refine DrP.undef (d := ?_) (op := ?_) (t := ?_) (p := ?_) (a := ?_) (j := ?_) (w := ?_) (x := ?_) ?ho ?hj ?hx ?hd ?_; (case ho => rfl))); (case hj => rfl); (case hx => ((try simp only [val, get_set, get_nil, ofArgs, ofValue, Nat.reduceEqDiff, reduceIte, Option.map_some, hla, hlb, f1, f2, call33_13, call33_14, hR, c15, c16, hS, zero39, LV.cells, putNew_eq, hnext_empty, hnext_new, hnext_set, Nat.reduceAdd, hget_new, hget_set, Nat.reduceEqDiff, reduceIte, stR, stS, ldR, ldS, oR.may, oR.eq, oS.may, oS.eq, em4, ei4, bb, ii, c10, c17, c12, c18, ln]) <;> exact rfl)); (case hd => rfl)))
  rcases startsGift_cases A with ⟨_, hg⟩ | ⟨_, hg⟩ | ⟨x, L, hsN, hg⟩
  · have chk_ : True := by simp only [hla, hlb, f1, f2, call33_13, call33_14, hR, c15, c16, hS, zero39, LV.cells, putNew_eq, hnext_empty, hnext_new, hnext_set, Nat.reduceAdd, hget_new, hget_set, Nat.reduceEqDiff, reduceIte, stR, stS, ldR, ldS, oR.may, oR.eq, oS.may, oS.eq, em4, ei4, bb, ii, c10, c17, c12, c18, c9, c19, hg, putGift, call33_20, call33_21, ln, call33_11n]
    clear chk_
    repeat (first | refine EvP.seq ?_ | refine EvP.region ?_ | refine OpsP.nil ?_ | refine GuardP.no ?_ | refine DGuardP.no ?_ | refine DrP.nil ?_ | refine CondP.t ?_ | refine CondP.f ?_ | refine EvP.ret ?_ | refine EvP.skip ?_ | refine EvP.exit ?_ | refine EvP.block ?_ | refine EvP.scope ?_  | ((first | refine OpsP.put (v := ?_) (h1 := ?_) ?hd ?he ?_ | refine OpsP.eff (v := ?_) (h1 := ?_) ?he ?_ | refine GuardP.yes (v := ?_) (h1 := ?_) ?he ?_  | (refine DrP.put (d := ?_) (op := ?_) (t := ?_) (p := ?_) (a := ?_) (v := ?_) (h1 := ?_) ?ho ?hd ?he ?_; (case ho => rfl)) | (refine DrP.eff (op := ?_) (t := ?_) (p := ?_) (a := ?_) (v := ?_) (h1 := ?_) ?ho ?he ?_; (case ho => rfl)) | refine DGuardP.yes (v := ?_) (h1 := ?_) ?he ?_); (try case hd => rfl); (case he => intro run; ((try simp only [evOp, evA, val, vals, oval, parts, get_set, get_nil, ofArgs, ofValue, binOpE, arith, ilt, convertE, unOpE, builtinE, callV, List.nil_append, List.append_nil, Option.bind_some, Option.map_some, Nat.reduceEqDiff, reduceIte, Bool.not_true, Bool.not_false, List.getElem?_cons_zero, List.getElem?_cons_succ, List.getElem?_toArray, Array.toList, List.mapM_cons, List.mapM_nil, Option.pure_def, Option.bind_eq_bind, hla, hlb, f1, f2, call33_13, call33_14, hR, c15, c16, hS, zero39, LV.cells, putNew_eq, hnext_empty, hnext_new, hnext_set, Nat.reduceAdd, hget_new, hget_set, Nat.reduceEqDiff, reduceIte, stR, stS, ldR, ldS, oR.may, oR.eq, oS.may, oS.eq, em4, ei4, bb, ii, c10, c17, c12, c18, c9, c19, hg, putGift, call33_20, call33_21, ln, call33_11n]) <;> exact rfl)))  | ((first | refine OpsP.guard (x := ?_) (b := ?_) ?hj ?hx ?hd ?_ | (refine DrP.guard (d := ?_) (op := ?_) (t := ?_) (p := ?_) (a := ?_) (j := ?_) (w := ?_) (x := ?_) (b := ?_) ?ho ?hj ?hx ?hd ?_; (case ho => rfl)) | refine EvP.condB (c := ?_) ?hx ?_); (try case hj => rfl); (case hx => ((try simp only [val, get_set, get_nil, ofArgs, ofValue, Nat.reduceEqDiff, reduceIte, Option.map_some, hla, hlb, f1, f2, call33_13, call33_14, hR, c15, c16, hS, zero39, LV.cells, putNew_eq, hnext_empty, hnext_new, hnext_set, Nat.reduceAdd, hget_new, hget_set, Nat.reduceEqDiff, reduceIte, stR, stS, ldR, ldS, oR.may, oR.eq, oS.may, oS.eq, em4, ei4, bb, ii, c10, c17, c12, c18, c9, c19, hg, putGift, call33_20, call33_21, ln, call33_11n]) <;> exact rfl)); (try case hd => rfl))  | ((first | refine OpsP.undef (x := ?_) ?hj ?hx ?hd ?_ | (refine DrP.undef (d := ?_) (op := ?_) (t := ?_) (p := ?_) (a := ?_) (j := ?_) (w := ?_) (x := ?_) ?ho ?hj ?hx ?hd ?_; (case ho => rfl))); (case hj => rfl); (case hx => ((try simp only [val, get_set, get_nil, ofArgs, ofValue, Nat.reduceEqDiff, reduceIte, Option.map_some, hla, hlb, f1, f2, call33_13, call33_14, hR, c15, c16, hS, zero39, LV.cells, putNew_eq, hnext_empty, hnext_new, hnext_set, Nat.reduceAdd, hget_new, hget_set, Nat.reduceEqDiff, reduceIte, stR, stS, ldR, ldS, oR.may, oR.eq, oS.may, oS.eq, em4, ei4, bb, ii, c10, c17, c12, c18, c9, c19, hg, putGift, call33_20, call33_21, ln, call33_11n]) <;> exact rfl)); (case hd => rfl)))
    refine EvP.loop (fun m tm h => ∃ B1 B2, tm.get 23 = .slice B1 112 0 113 none 7 ∧ tm.get 24 = .slice B2 112 0 113 none 7 ∧ h.get B1 = some (.row tabCells 112 7) ∧ h.get B2 = some (.row tabCells 112 7) ∧ tm.get 118 = .int .i64 (.ofNat 113) ∧
      ∃ i, m = 113 - i ∧ i ≤ 113 ∧ tm.get 119 = .int .i64 (.ofNat i)) 113 ?_ ?_
    · refine ⟨4, 5, ?h23, ?h24, ?g1, ?g2, ?_, 0, rfl, by omega, ?_⟩
      case h23 => exact (by (try simp only [val, get_set, get_nil, ofArgs, ofValue, Nat.reduceEqDiff, reduceIte, Option.map_some]) <;> exact rfl)
      case h24 => exact (by (try simp only [val, get_set, get_nil, ofArgs, ofValue, Nat.reduceEqDiff, reduceIte, Option.map_some]) <;> exact rfl)
      case g1 => (simp only [hget_set, hget_new, hnext_new, hnext_set, hnext_empty, Nat.reduceAdd, Nat.reduceEqDiff, reduceIte]) <;> rfl
      case g2 => (simp only [hget_set, hget_new, hnext_new, hnext_set, hnext_empty, Nat.reduceAdd, Nat.reduceEqDiff, reduceIte]) <;> rfl
      · exact (by (try simp only [val, get_set, get_nil, ofArgs, ofValue, Nat.reduceEqDiff, reduceIte, Option.map_some]) <;> exact rfl)
      · exact (by (try simp only [val, get_set, get_nil, ofArgs, ofValue, Nat.reduceEqDiff, reduceIte, Option.map_some]) <;> exact rfl)
    · rintro m tm h ⟨B1, B2, g23, g24, hb1, hb2, g118, i, rfl, hi, g119⟩
      by_cases hlt : i < 113
      · have fi : Nat.blt i 113 = true := by rw [blt_eq]; simp [hlt]
        have l1 := htab39 h B1 hb1 i hlt
        have l2 := htab39 h B2 hb2 i hlt
        have oi := row39_at i hlt
        have chk_ : True := by simp only [g23, g24, g118, g119, fi]
        clear chk_
        repeat (first | refine EvP.seq ?_ | refine EvP.region ?_ | refine OpsP.nil ?_ | refine GuardP.no ?_ | refine DGuardP.no ?_ | refine DrP.nil ?_ | refine CondP.t ?_ | refine CondP.f ?_ | refine EvP.ret ?_ | refine EvP.skip ?_ | refine EvP.exit ?_ | refine EvP.block ?_ | refine EvP.scope ?_  | ((first | refine OpsP.put (v := ?_) (h1 := ?_) ?hd ?he ?_ | refine OpsP.eff (v := ?_) (h1 := ?_) ?he ?_ | refine GuardP.yes (v := ?_) (h1 := ?_) ?he ?_  | (refine DrP.put (d := ?_) (op := ?_) (t := ?_) (p := ?_) (a := ?_) (v := ?_) (h1 := ?_) ?ho ?hd ?he ?_; (case ho => rfl)) | (refine DrP.eff (op := ?_) (t := ?_) (p := ?_) (a := ?_) (v := ?_) (h1 := ?_) ?ho ?he ?_; (case ho => rfl)) | refine DGuardP.yes (v := ?_) (h1 := ?_) ?he ?_); (try case hd => rfl); (case he => intro run; ((try simp only [evOp, evA, val, vals, oval, parts, get_set, get_nil, ofArgs, ofValue, binOpE, arith, ilt, convertE, unOpE, builtinE, lenE, callV, List.nil_append, List.append_nil, Option.bind_some, Option.map_some, Nat.reduceEqDiff, reduceIte, Bool.not_true, Bool.not_false, List.getElem?_cons_zero, List.getElem?_cons_succ, List.getElem?_toArray, Array.toList, List.mapM_cons, List.mapM_nil, Option.pure_def, Option.bind_eq_bind, g23, g24, g118, g119, fi]) <;> exact rfl)))  | ((first | refine OpsP.guard (x := ?_) (b := ?_) ?hj ?hx ?hd ?_ | (refine DrP.guard (d := ?_) (op := ?_) (t := ?_) (p := ?_) (a := ?_) (j := ?_) (w := ?_) (x := ?_) (b := ?_) ?ho ?hj ?hx ?hd ?_; (case ho => rfl)) | refine EvP.condB (c := ?_) ?hx ?_); (try case hj => rfl); (case hx => ((try simp only [val, get_set, get_nil, ofArgs, ofValue, Nat.reduceEqDiff, reduceIte, Option.map_some, g23, g24, g118, g119, fi]) <;> exact rfl)); (try case hd => rfl))  | ((first | refine OpsP.undef (x := ?_) ?hj ?hx ?hd ?_ | (refine DrP.undef (d := ?_) (op := ?_) (t := ?_) (p := ?_) (a := ?_) (j := ?_) (w := ?_) (x := ?_) ?ho ?hj ?hx ?hd ?_; (case ho => rfl))); (case hj => rfl); (case hx => ((try simp only [val, get_set, get_nil, ofArgs, ofValue, Nat.reduceEqDiff, reduceIte, Option.map_some, g23, g24, g118, g119, fi]) <;> exact rfl)); (case hd => rfl)))
        refine EvP.draw (ks := [.reads, .reads, .reads, .reads, .reads, .reads, .reads, .reads, .reads]) (ms := [0, 0, 3, 7, 0, 0, 48, 112, 255]) (ord := [0, 1, 2, 3, 4, 5, 6, 7, 8]) ⟨rfl, rfl, by kernel_rfl, by kernel_rfl⟩ ?_
        have chk_ : True := by simp only [g23, g24, g118, g119, ia43 B1 112 i 113 hlt none, ia43 B2 112 i 113 hlt none, l1, l2, oi.may, oi.eq]
        clear chk_
        repeat (first | refine EvP.seq ?_ | refine EvP.region ?_ | refine OpsP.nil ?_ | refine GuardP.no ?_ | refine DGuardP.no ?_ | refine DrP.nil ?_ | refine CondP.t ?_ | refine CondP.f ?_ | refine EvP.ret ?_ | refine EvP.skip ?_ | refine EvP.exit ?_ | refine EvP.block ?_ | refine EvP.scope ?_  | ((first | refine OpsP.put (v := ?_) (h1 := ?_) ?hd ?he ?_ | refine OpsP.eff (v := ?_) (h1 := ?_) ?he ?_ | refine GuardP.yes (v := ?_) (h1 := ?_) ?he ?_  | (refine DrP.put (d := ?_) (op := ?_) (t := ?_) (p := ?_) (a := ?_) (v := ?_) (h1 := ?_) ?ho ?hd ?he ?_; (case ho => rfl)) | (refine DrP.eff (op := ?_) (t := ?_) (p := ?_) (a := ?_) (v := ?_) (h1 := ?_) ?ho ?he ?_; (case ho => rfl)) | refine DGuardP.yes (v := ?_) (h1 := ?_) ?he ?_); (try case hd => rfl); (case he => intro run; ((try simp only [evOp, evA, val, vals, oval, parts, get_set, get_nil, ofArgs, ofValue, binOpE, arith, ilt, convertE, unOpE, builtinE, lenE, callV, List.nil_append, List.append_nil, Option.bind_some, Option.map_some, Nat.reduceEqDiff, reduceIte, Bool.not_true, Bool.not_false, List.getElem?_cons_zero, List.getElem?_cons_succ, List.getElem?_toArray, Array.toList, List.mapM_cons, List.mapM_nil, Option.pure_def, Option.bind_eq_bind, g23, g24, g118, g119, ia43 B1 112 i 113 hlt none, ia43 B2 112 i 113 hlt none, l1, l2, oi.may, oi.eq]) <;> exact rfl)))  | ((first | refine OpsP.guard (x := ?_) (b := ?_) ?hj ?hx ?hd ?_ | (refine DrP.guard (d := ?_) (op := ?_) (t := ?_) (p := ?_) (a := ?_) (j := ?_) (w := ?_) (x := ?_) (b := ?_) ?ho ?hj ?hx ?hd ?_; (case ho => rfl)) | refine EvP.condB (c := ?_) ?hx ?_); (try case hj => rfl); (case hx => ((try simp only [val, get_set, get_nil, ofArgs, ofValue, Nat.reduceEqDiff, reduceIte, Option.map_some, g23, g24, g118, g119, ia43 B1 112 i 113 hlt none, ia43 B2 112 i 113 hlt none, l1, l2, oi.may, oi.eq]) <;> exact rfl)); (try case hd => rfl))  | ((first | refine OpsP.undef (x := ?_) ?hj ?hx ?hd ?_ | (refine DrP.undef (d := ?_) (op := ?_) (t := ?_) (p := ?_) (a := ?_) (j := ?_) (w := ?_) (x := ?_) ?ho ?hj ?hx ?hd ?_; (case ho => rfl))); (case hj => rfl); (case hx => ((try simp only [val, get_set, get_nil, ofArgs, ofValue, Nat.reduceEqDiff, reduceIte, Option.map_some, g23, g24, g118, g119, ia43 B1 112 i 113 hlt none, ia43 B2 112 i 113 hlt none, l1, l2, oi.may, oi.eq]) <;> exact rfl)); (case hd => rfl)))
        refine ⟨fun run => by kernel_rfl, ?_⟩
        have chk_ : True := by simp only [g23, g24, g118, g119]
        clear chk_
        repeat (first | refine EvP.seq ?_ | refine EvP.region ?_ | refine OpsP.nil ?_ | refine GuardP.no ?_ | refine DGuardP.no ?_ | refine DrP.nil ?_ | refine CondP.t ?_ | refine CondP.f ?_ | refine EvP.ret ?_ | refine EvP.skip ?_ | refine EvP.exit ?_ | refine EvP.block ?_ | refine EvP.scope ?_  | ((first | refine OpsP.put (v := ?_) (h1 := ?_) ?hd ?he ?_ | refine OpsP.eff (v := ?_) (h1 := ?_) ?he ?_ | refine GuardP.yes (v := ?_) (h1 := ?_) ?he ?_  | (refine DrP.put (d := ?_) (op := ?_) (t := ?_) (p := ?_) (a := ?_) (v := ?_) (h1 := ?_) ?ho ?hd ?he ?_; (case ho => rfl)) | (refine DrP.eff (op := ?_) (t := ?_) (p := ?_) (a := ?_) (v := ?_) (h1 := ?_) ?ho ?he ?_; (case ho => rfl)) | refine DGuardP.yes (v := ?_) (h1 := ?_) ?he ?_); (try case hd => rfl); (case he => intro run; ((try simp only [evOp, evA, val, vals, oval, parts, get_set, get_nil, ofArgs, ofValue, binOpE, arith, ilt, convertE, unOpE, builtinE, lenE, callV, List.nil_append, List.append_nil, Option.bind_some, Option.map_some, Nat.reduceEqDiff, reduceIte, Bool.not_true, Bool.not_false, List.getElem?_cons_zero, List.getElem?_cons_succ, List.getElem?_toArray, Array.toList, List.mapM_cons, List.mapM_nil, Option.pure_def, Option.bind_eq_bind, g23, g24, g118, g119]) <;> exact rfl)))  | ((first | refine OpsP.guard (x := ?_) (b := ?_) ?hj ?hx ?hd ?_ | (refine DrP.guard (d := ?_) (op := ?_) (t := ?_) (p := ?_) (a := ?_) (j := ?_) (w := ?_) (x := ?_) (b := ?_) ?ho ?hj ?hx ?hd ?_; (case ho => rfl)) | refine EvP.condB (c := ?_) ?hx ?_); (try case hj => rfl); (case hx => ((try simp only [val, get_set, get_nil, ofArgs, ofValue, Nat.reduceEqDiff, reduceIte, Option.map_some, g23, g24, g118, g119]) <;> exact rfl)); (try case hd => rfl))  | ((first | refine OpsP.undef (x := ?_) ?hj ?hx ?hd ?_ | (refine DrP.undef (d := ?_) (op := ?_) (t := ?_) (p := ?_) (a := ?_) (j := ?_) (w := ?_) (x := ?_) ?ho ?hj ?hx ?hd ?_; (case ho => rfl))); (case hj => rfl); (case hx => ((try simp only [val, get_set, get_nil, ofArgs, ofValue, Nat.reduceEqDiff, reduceIte, Option.map_some, g23, g24, g118, g119]) <;> exact rfl)); (case hd => rfl)))
        refine ⟨113 - (i + 1), by omega, B1, B2, ?_, ?_, hb1, hb2, ?_, i + 1, rfl, by omega, ?_⟩
        · exact (by (try simp only [val, get_set, get_nil, ofArgs, ofValue, Nat.reduceEqDiff, reduceIte, Option.map_some, g23]) <;> exact rfl)
        · exact (by (try simp only [val, get_set, get_nil, ofArgs, ofValue, Nat.reduceEqDiff, reduceIte, Option.map_some, g24]) <;> exact rfl)
        · exact (by (try simp only [val, get_set, get_nil, ofArgs, ofValue, Nat.reduceEqDiff, reduceIte, Option.map_some, g118]) <;> exact rfl)
        · simp only [get_set, Nat.reduceEqDiff, reduceIte]
          rw [show Int.ofNat i + 1 = Int.ofNat (i + 1) from rfl, wrap_nat .i64 (i + 1) (by simp only [half]; omega)]
      · have fi : Nat.blt 113 113 = false := rfl
        have : i = 113 := by omega
        subst this
        have chk_ : True := by simp only [g23, g24, g118, g119, fi, call33_8]
        clear chk_
        repeat (first | refine EvP.seq ?_ | refine EvP.region ?_ | refine OpsP.nil ?_ | refine GuardP.no ?_ | refine DGuardP.no ?_ | refine DrP.nil ?_ | refine CondP.t ?_ | refine CondP.f ?_ | refine EvP.ret ?_ | refine EvP.skip ?_ | refine EvP.exit ?_ | refine EvP.block ?_ | refine EvP.scope ?_  | ((first | refine OpsP.put (v := ?_) (h1 := ?_) ?hd ?he ?_ | refine OpsP.eff (v := ?_) (h1 := ?_) ?he ?_ | refine GuardP.yes (v := ?_) (h1 := ?_) ?he ?_  | (refine DrP.put (d := ?_) (op := ?_) (t := ?_) (p := ?_) (a := ?_) (v := ?_) (h1 := ?_) ?ho ?hd ?he ?_; (case ho => rfl)) | (refine DrP.eff (op := ?_) (t := ?_) (p := ?_) (a := ?_) (v := ?_) (h1 := ?_) ?ho ?he ?_; (case ho => rfl)) | refine DGuardP.yes (v := ?_) (h1 := ?_) ?he ?_); (try case hd => rfl); (case he => intro run; ((try simp only [evOp, evA, val, vals, oval, parts, get_set, get_nil, ofArgs, ofValue, binOpE, arith, ilt, convertE, unOpE, builtinE, lenE, callV, List.nil_append, List.append_nil, Option.bind_some, Option.map_some, Nat.reduceEqDiff, reduceIte, Bool.not_true, Bool.not_false, List.getElem?_cons_zero, List.getElem?_cons_succ, List.getElem?_toArray, Array.toList, List.mapM_cons, List.mapM_nil, Option.pure_def, Option.bind_eq_bind, g23, g24, g118, g119, fi, call33_8]) <;> exact rfl)))  | ((first | refine OpsP.guard (x := ?_) (b := ?_) ?hj ?hx ?hd ?_ | (refine DrP.guard (d := ?_) (op := ?_) (t := ?_) (p := ?_) (a := ?_) (j := ?_) (w := ?_) (x := ?_) (b := ?_) ?ho ?hj ?hx ?hd ?_; (case ho => rfl)) | refine EvP.condB (c := ?_) ?hx ?_); (try case hj => rfl); (case hx => ((try simp only [val, get_set, get_nil, ofArgs, ofValue, Nat.reduceEqDiff, reduceIte, Option.map_some, g23, g24, g118, g119, fi, call33_8]) <;> exact rfl)); (try case hd => rfl))  | ((first | refine OpsP.undef (x := ?_) ?hj ?hx ?hd ?_ | (refine DrP.undef (d := ?_) (op := ?_) (t := ?_) (p := ?_) (a := ?_) (j := ?_) (w := ?_) (x := ?_) ?ho ?hj ?hx ?hd ?_; (case ho => rfl))); (case hj => rfl); (case hx => ((try simp only [val, get_set, get_nil, ofArgs, ofValue, Nat.reduceEqDiff, reduceIte, Option.map_some, g23, g24, g118, g119, fi, call33_8]) <;> exact rfl)); (case hd => rfl)))
        refine ⟨_, rfl, ?_⟩
        simp only [oneOf, get_set, Nat.reduceEqDiff, reduceIte]
  · have chk_ : True := by simp only [hla, hlb, f1, f2, call33_13, call33_14, hR, c15, c16, hS, zero39, LV.cells, putNew_eq, hnext_empty, hnext_new, hnext_set, Nat.reduceAdd, hget_new, hget_set, Nat.reduceEqDiff, reduceIte, stR, stS, ldR, ldS, oR.may, oR.eq, oS.may, oS.eq, em4, ei4, bb, ii, c10, c17, c12, c18, c9, c19, hg, putGift, call33_20, call33_21, ln, call33_11n]
    clear chk_
    repeat (first | refine EvP.seq ?_ | refine EvP.region ?_ | refine OpsP.nil ?_ | refine GuardP.no ?_ | refine DGuardP.no ?_ | refine DrP.nil ?_ | refine CondP.t ?_ | refine CondP.f ?_ | refine EvP.ret ?_ | refine EvP.skip ?_ | refine EvP.exit ?_ | refine EvP.block ?_ | refine EvP.scope ?_  | ((first | refine OpsP.put (v := ?_) (h1 := ?_) ?hd ?he ?_ | refine OpsP.eff (v := ?_) (h1 := ?_) ?he ?_ | refine GuardP.yes (v := ?_) (h1 := ?_) ?he ?_  | (refine DrP.put (d := ?_) (op := ?_) (t := ?_) (p := ?_) (a := ?_) (v := ?_) (h1 := ?_) ?ho ?hd ?he ?_; (case ho => rfl)) | (refine DrP.eff (op := ?_) (t := ?_) (p := ?_) (a := ?_) (v := ?_) (h1 := ?_) ?ho ?he ?_; (case ho => rfl)) | refine DGuardP.yes (v := ?_) (h1 := ?_) ?he ?_); (try case hd => rfl); (case he => intro run; ((try simp only [evOp, evA, val, vals, oval, parts, get_set, get_nil, ofArgs, ofValue, binOpE, arith, ilt, convertE, unOpE, builtinE, callV, List.nil_append, List.append_nil, Option.bind_some, Option.map_some, Nat.reduceEqDiff, reduceIte, Bool.not_true, Bool.not_false, List.getElem?_cons_zero, List.getElem?_cons_succ, List.getElem?_toArray, Array.toList, List.mapM_cons, List.mapM_nil, Option.pure_def, Option.bind_eq_bind, hla, hlb, f1, f2, call33_13, call33_14, hR, c15, c16, hS, zero39, LV.cells, putNew_eq, hnext_empty, hnext_new, hnext_set, Nat.reduceAdd, hget_new, hget_set, Nat.reduceEqDiff, reduceIte, stR, stS, ldR, ldS, oR.may, oR.eq, oS.may, oS.eq, em4, ei4, bb, ii, c10, c17, c12, c18, c9, c19, hg, putGift, call33_20, call33_21, ln, call33_11n]) <;> exact rfl)))  | ((first | refine OpsP.guard (x := ?_) (b := ?_) ?hj ?hx ?hd ?_ | (refine DrP.guard (d := ?_) (op := ?_) (t := ?_) (p := ?_) (a := ?_) (j := ?_) (w := ?_) (x := ?_) (b := ?_) ?ho ?hj ?hx ?hd ?_; (case ho => rfl)) | refine EvP.condB (c := ?_) ?hx ?_); (try case hj => rfl); (case hx => ((try simp only [val, get_set, get_nil, ofArgs, ofValue, Nat.reduceEqDiff, reduceIte, Option.map_some, hla, hlb, f1, f2, call33_13, call33_14, hR, c15, c16, hS, zero39, LV.cells, putNew_eq, hnext_empty, hnext_new, hnext_set, Nat.reduceAdd, hget_new, hget_set, Nat.reduceEqDiff, reduceIte, stR, stS, ldR, ldS, oR.may, oR.eq, oS.may, oS.eq, em4, ei4, bb, ii, c10, c17, c12, c18, c9, c19, hg, putGift, call33_20, call33_21, ln, call33_11n]) <;> exact rfl)); (try case hd => rfl))  | ((first | refine OpsP.undef (x := ?_) ?hj ?hx ?hd ?_ | (refine DrP.undef (d := ?_) (op := ?_) (t := ?_) (p := ?_) (a := ?_) (j := ?_) (w := ?_) (x := ?_) ?ho ?hj ?hx ?hd ?_; (case ho => rfl))); (case hj => rfl); (case hx => ((try simp only [val, get_set, get_nil, ofArgs, ofValue, Nat.reduceEqDiff, reduceIte, Option.map_some, hla, hlb, f1, f2, call33_13, call33_14, hR, c15, c16, hS, zero39, LV.cells, putNew_eq, hnext_empty, hnext_new, hnext_set, Nat.reduceAdd, hget_new, hget_set, Nat.reduceEqDiff, reduceIte, stR, stS, ldR, ldS, oR.may, oR.eq, oS.may, oS.eq, em4, ei4, bb, ii, c10, c17, c12, c18, c9, c19, hg, putGift, call33_20, call33_21, ln, call33_11n]) <;> exact rfl)); (case hd => rfl)))
    refine EvP.loop (fun m tm h => ∃ B1 B2, tm.get 23 = .slice B1 112 0 113 none 7 ∧ tm.get 24 = .slice B2 112 0 113 none 7 ∧ h.get B1 = some (.row tabCells 112 7) ∧ h.get B2 = some (.row tabCells 112 7) ∧ tm.get 118 = .int .i64 (.ofNat 113) ∧
      ∃ i, m = 113 - i ∧ i ≤ 113 ∧ tm.get 119 = .int .i64 (.ofNat i)) 113 ?_ ?_
    · refine ⟨4, 5, ?h23, ?h24, ?g1, ?g2, ?_, 0, rfl, by omega, ?_⟩
      case h23 => exact (by (try simp only [val, get_set, get_nil, ofArgs, ofValue, Nat.reduceEqDiff, reduceIte, Option.map_some]) <;> exact rfl)
      case h24 => exact (by (try simp only [val, get_set, get_nil, ofArgs, ofValue, Nat.reduceEqDiff, reduceIte, Option.map_some]) <;> exact rfl)
      case g1 => (simp only [hget_set, hget_new, hnext_new, hnext_set, hnext_empty, Nat.reduceAdd, Nat.reduceEqDiff, reduceIte]) <;> rfl
      case g2 => (simp only [hget_set, hget_new, hnext_new, hnext_set, hnext_empty, Nat.reduceAdd, Nat.reduceEqDiff, reduceIte]) <;> rfl
      · exact (by (try simp only [val, get_set, get_nil, ofArgs, ofValue, Nat.reduceEqDiff, reduceIte, Option.map_some]) <;> exact rfl)
      · exact (by (try simp only [val, get_set, get_nil, ofArgs, ofValue, Nat.reduceEqDiff, reduceIte, Option.map_some]) <;> exact rfl)
    · rintro m tm h ⟨B1, B2, g23, g24, hb1, hb2, g118, i, rfl, hi, g119⟩
      by_cases hlt : i < 113
      · have fi : Nat.blt i 113 = true := by rw [blt_eq]; simp [hlt]
        have l1 := htab39 h B1 hb1 i hlt
        have l2 := htab39 h B2 hb2 i hlt
        have oi := row39_at i hlt
        have chk_ : True := by simp only [g23, g24, g118, g119, fi]
        clear chk_
        repeat (first | refine EvP.seq ?_ | refine EvP.region ?_ | refine OpsP.nil ?_ | refine GuardP.no ?_ | refine DGuardP.no ?_ | refine DrP.nil ?_ | refine CondP.t ?_ | refine CondP.f ?_ | refine EvP.ret ?_ | refine EvP.skip ?_ | refine EvP.exit ?_ | refine EvP.block ?_ | refine EvP.scope ?_  | ((first | refine OpsP.put (v := ?_) (h1 := ?_) ?hd ?he ?_ | refine OpsP.eff (v := ?_) (h1 := ?_) ?he ?_ | refine GuardP.yes (v := ?_) (h1 := ?_) ?he ?_  | (refine DrP.put (d := ?_) (op := ?_) (t := ?_) (p := ?_) (a := ?_) (v := ?_) (h1 := ?_) ?ho ?hd ?he ?_; (case ho => rfl)) | (refine DrP.eff (op := ?_) (t := ?_) (p := ?_) (a := ?_) (v := ?_) (h1 := ?_) ?ho ?he ?_; (case ho => rfl)) | refine DGuardP.yes (v := ?_) (h1 := ?_) ?he ?_); (try case hd => rfl); (case he => intro run; ((try simp only [evOp, evA, val, vals, oval, parts, get_set, get_nil, ofArgs, ofValue, binOpE, arith, ilt, convertE, unOpE, builtinE, lenE, callV, List.nil_append, List.append_nil, Option.bind_some, Option.map_some, Nat.reduceEqDiff, reduceIte, Bool.not_true, Bool.not_false, List.getElem?_cons_zero, List.getElem?_cons_succ, List.getElem?_toArray, Array.toList, List.mapM_cons, List.mapM_nil, Option.pure_def, Option.bind_eq_bind, g23, g24, g118, g119, fi]) <;> exact rfl)))  | ((first | refine OpsP.guard (x := ?_) (b := ?_) ?hj ?hx ?hd ?_ | (refine DrP.guard (d := ?_) (op := ?_) (t := ?_) (p := ?_) (a := ?_) (j := ?_) (w := ?_) (x := ?_) (b := ?_) ?ho ?hj ?hx ?hd ?_; (case ho => rfl)) | refine EvP.condB (c := ?_) ?hx ?_); (try case hj => rfl); (case hx => ((try simp only [val, get_set, get_nil, ofArgs, ofValue, Nat.reduceEqDiff, reduceIte, Option.map_some, g23, g24, g118, g119, fi]) <;> exact rfl)); (try case hd => rfl))  | ((first | refine OpsP.undef (x := ?_) ?hj ?hx ?hd ?_ | (refine DrP.undef (d := ?_) (op := ?_) (t := ?_) (p := ?_) (a := ?_) (j := ?_) (w := ?_) (x := ?_) ?ho ?hj ?hx ?hd ?_; (case ho => rfl))); (case hj => rfl); (case hx => ((try simp only [val, get_set, get_nil, ofArgs, ofValue, Nat.reduceEqDiff, reduceIte, Option.map_some, g23, g24, g118, g119, fi]) <;> exact rfl)); (case hd => rfl)))
        refine EvP.draw (ks := [.reads, .reads, .reads, .reads, .reads, .reads, .reads, .reads, .reads]) (ms := [0, 0, 3, 7, 0, 0, 48, 112, 255]) (ord := [0, 1, 2, 3, 4, 5, 6, 7, 8]) ⟨rfl, rfl, by kernel_rfl, by kernel_rfl⟩ ?_
        have chk_ : True := by simp only [g23, g24, g118, g119, ia43 B1 112 i 113 hlt none, ia43 B2 112 i 113 hlt none, l1, l2, oi.may, oi.eq]
        clear chk_
        repeat (first | refine EvP.seq ?_ | refine EvP.region ?_ | refine OpsP.nil ?_ | refine GuardP.no ?_ | refine DGuardP.no ?_ | refine DrP.nil ?_ | refine CondP.t ?_ | refine CondP.f ?_ | refine EvP.ret ?_ | refine EvP.skip ?_ | refine EvP.exit ?_ | refine EvP.block ?_ | refine EvP.scope ?_  | ((first | refine OpsP.put (v := ?_) (h1 := ?_) ?hd ?he ?_ | refine OpsP.eff (v := ?_) (h1 := ?_) ?he ?_ | refine GuardP.yes (v := ?_) (h1 := ?_) ?he ?_  | (refine DrP.put (d := ?_) (op := ?_) (t := ?_) (p := ?_) (a := ?_) (v := ?_) (h1 := ?_) ?ho ?hd ?he ?_; (case ho => rfl)) | (refine DrP.eff (op := ?_) (t := ?_) (p := ?_) (a := ?_) (v := ?_) (h1 := ?_) ?ho ?he ?_; (case ho => rfl)) | refine DGuardP.yes (v := ?_) (h1 := ?_) ?he ?_); (try case hd => rfl); (case he => intro run; ((try simp only [evOp, evA, val, vals, oval, parts, get_set, get_nil, ofArgs, ofValue, binOpE, arith, ilt, convertE, unOpE, builtinE, lenE, callV, List.nil_append, List.append_nil, Option.bind_some, Option.map_some, Nat.reduceEqDiff, reduceIte, Bool.not_true, Bool.not_false, List.getElem?_cons_zero, List.getElem?_cons_succ, List.getElem?_toArray, Array.toList, List.mapM_cons, List.mapM_nil, Option.pure_def, Option.bind_eq_bind, g23, g24, g118, g119, ia43 B1 112 i 113 hlt none, ia43 B2 112 i 113 hlt none, l1, l2, oi.may, oi.eq]) <;> exact rfl)))  | ((first | refine OpsP.guard (x := ?_) (b := ?_) ?hj ?hx ?hd ?_ | (refine DrP.guard (d := ?_) (op := ?_) (t := ?_) (p := ?_) (a := ?_) (j := ?_) (w := ?_) (x := ?_) (b := ?_) ?ho ?hj ?hx ?hd ?_; (case ho => rfl)) | refine EvP.condB (c := ?_) ?hx ?_); (try case hj => rfl); (case hx => ((try simp only [val, get_set, get_nil, ofArgs, ofValue, Nat.reduceEqDiff, reduceIte, Option.map_some, g23, g24, g118, g119, ia43 B1 112 i 113 hlt none, ia43 B2 112 i 113 hlt none, l1, l2, oi.may, oi.eq]) <;> exact rfl)); (try case hd => rfl))  | ((first | refine OpsP.undef (x := ?_) ?hj ?hx ?hd ?_ | (refine DrP.undef (d := ?_) (op := ?_) (t := ?_) (p := ?_) (a := ?_) (j := ?_) (w := ?_) (x := ?_) ?ho ?hj ?hx ?hd ?_; (case ho => rfl))); (case hj => rfl); (case hx => ((try simp only [val, get_set, get_nil, ofArgs, ofValue, Nat.reduceEqDiff, reduceIte, Option.map_some, g23, g24, g118, g119, ia43 B1 112 i 113 hlt none, ia43 B2 112 i 113 hlt none, l1, l2, oi.may, oi.eq]) <;> exact rfl)); (case hd => rfl)))
        refine ⟨fun run => by kernel_rfl, ?_⟩
        have chk_ : True := by simp only [g23, g24, g118, g119]
        clear chk_
        repeat (first | refine EvP.seq ?_ | refine EvP.region ?_ | refine OpsP.nil ?_ | refine GuardP.no ?_ | refine DGuardP.no ?_ | refine DrP.nil ?_ | refine CondP.t ?_ | refine CondP.f ?_ | refine EvP.ret ?_ | refine EvP.skip ?_ | refine EvP.exit ?_ | refine EvP.block ?_ | refine EvP.scope ?_  | ((first | refine OpsP.put (v := ?_) (h1 := ?_) ?hd ?he ?_ | refine OpsP.eff (v := ?_) (h1 := ?_) ?he ?_ | refine GuardP.yes (v := ?_) (h1 := ?_) ?he ?_  | (refine DrP.put (d := ?_) (op := ?_) (t := ?_) (p := ?_) (a := ?_) (v := ?_) (h1 := ?_) ?ho ?hd ?he ?_; (case ho => rfl)) | (refine DrP.eff (op := ?_) (t := ?_) (p := ?_) (a := ?_) (v := ?_) (h1 := ?_) ?ho ?he ?_; (case ho => rfl)) | refine DGuardP.yes (v := ?_) (h1 := ?_) ?he ?_); (try case hd => rfl); (case he => intro run; ((try simp only [evOp, evA, val, vals, oval, parts, get_set, get_nil, ofArgs, ofValue, binOpE, arith, ilt, convertE, unOpE, builtinE, lenE, callV, List.nil_append, List.append_nil, Option.bind_some, Option.map_some, Nat.reduceEqDiff, reduceIte, Bool.not_true, Bool.not_false, List.getElem?_cons_zero, List.getElem?_cons_succ, List.getElem?_toArray, Array.toList, List.mapM_cons, List.mapM_nil, Option.pure_def, Option.bind_eq_bind, g23, g24, g118, g119]) <;> exact rfl)))  | ((first | refine OpsP.guard (x := ?_) (b := ?_) ?hj ?hx ?hd ?_ | (refine DrP.guard (d := ?_) (op := ?_) (t := ?_) (p := ?_) (a := ?_) (j := ?_) (w := ?_) (x := ?_) (b := ?_) ?ho ?hj ?hx ?hd ?_; (case ho => rfl)) | refine EvP.condB (c := ?_) ?hx ?_); (try case hj => rfl); (case hx => ((try simp only [val, get_set, get_nil, ofArgs, ofValue, Nat.reduceEqDiff, reduceIte, Option.map_some, g23, g24, g118, g119]) <;> exact rfl)); (try case hd => rfl))  | ((first | refine OpsP.undef (x := ?_) ?hj ?hx ?hd ?_ | (refine DrP.undef (d := ?_) (op := ?_) (t := ?_) (p := ?_) (a := ?_) (j := ?_) (w := ?_) (x := ?_) ?ho ?hj ?hx ?hd ?_; (case ho => rfl))); (case hj => rfl); (case hx => ((try simp only [val, get_set, get_nil, ofArgs, ofValue, Nat.reduceEqDiff, reduceIte, Option.map_some, g23, g24, g118, g119]) <;> exact rfl)); (case hd => rfl)))
        refine ⟨113 - (i + 1), by omega, B1, B2, ?_, ?_, hb1, hb2, ?_, i + 1, rfl, by omega, ?_⟩
        · exact (by (try simp only [val, get_set, get_nil, ofArgs, ofValue, Nat.reduceEqDiff, reduceIte, Option.map_some, g23]) <;> exact rfl)
        · exact (by (try simp only [val, get_set, get_nil, ofArgs, ofValue, Nat.reduceEqDiff, reduceIte, Option.map_some, g24]) <;> exact rfl)
        · exact (by (try simp only [val, get_set, get_nil, ofArgs, ofValue, Nat.reduceEqDiff, reduceIte, Option.map_some, g118]) <;> exact rfl)
        · simp only [get_set, Nat.reduceEqDiff, reduceIte]
          rw [show Int.ofNat i + 1 = Int.ofNat (i + 1) from rfl, wrap_nat .i64 (i + 1) (by simp only [half]; omega)]
      · have fi : Nat.blt 113 113 = false := rfl
        have : i = 113 := by omega
        subst this
        have chk_ : True := by simp only [g23, g24, g118, g119, fi, call33_8]
        clear chk_
        repeat (first | refine EvP.seq ?_ | refine EvP.region ?_ | refine OpsP.nil ?_ | refine GuardP.no ?_ | refine DGuardP.no ?_ | refine DrP.nil ?_ | refine CondP.t ?_ | refine CondP.f ?_ | refine EvP.ret ?_ | refine EvP.skip ?_ | refine EvP.exit ?_ | refine EvP.block ?_ | refine EvP.scope ?_  | ((first | refine OpsP.put (v := ?_) (h1 := ?_) ?hd ?he ?_ | refine OpsP.eff (v := ?_) (h1 := ?_) ?he ?_ | refine GuardP.yes (v := ?_) (h1 := ?_) ?he ?_  | (refine DrP.put (d := ?_) (op := ?_) (t := ?_) (p := ?_) (a := ?_) (v := ?_) (h1 := ?_) ?ho ?hd ?he ?_; (case ho => rfl)) | (refine DrP.eff (op := ?_) (t := ?_) (p := ?_) (a := ?_) (v := ?_) (h1 := ?_) ?ho ?he ?_; (case ho => rfl)) | refine DGuardP.yes (v := ?_) (h1 := ?_) ?he ?_); (try case hd => rfl); (case he => intro run; ((try simp only [evOp, evA, val, vals, oval, parts, get_set, get_nil, ofArgs, ofValue, binOpE, arith, ilt, convertE, unOpE, builtinE, lenE, callV, List.nil_append, List.append_nil, Option.bind_some, Option.map_some, Nat.reduceEqDiff, reduceIte, Bool.not_true, Bool.not_false, List.getElem?_cons_zero, List.getElem?_cons_succ, List.getElem?_toArray, Array.toList, List.mapM_cons, List.mapM_nil, Option.pure_def, Option.bind_eq_bind, g23, g24, g118, g119, fi, call33_8]) <;> exact rfl)))  | ((first | refine OpsP.guard (x := ?_) (b := ?_) ?hj ?hx ?hd ?_ | (refine DrP.guard (d := ?_) (op := ?_) (t := ?_) (p := ?_) (a := ?_) (j := ?_) (w := ?_) (x := ?_) (b := ?_) ?ho ?hj ?hx ?hd ?_; (case ho => rfl)) | refine EvP.condB (c := ?_) ?hx ?_); (try case hj => rfl); (case hx => ((try simp only [val, get_set, get_nil, ofArgs, ofValue, Nat.reduceEqDiff, reduceIte, Option.map_some, g23, g24, g118, g119, fi, call33_8]) <;> exact rfl)); (try case hd => rfl))  | ((first | refine OpsP.undef (x := ?_) ?hj ?hx ?hd ?_ | (refine DrP.undef (d := ?_) (op := ?_) (t := ?_) (p := ?_) (a := ?_) (j := ?_) (w := ?_) (x := ?_) ?ho ?hj ?hx ?hd ?_; (case ho => rfl))); (case hj => rfl); (case hx => ((try simp only [val, get_set, get_nil, ofArgs, ofValue, Nat.reduceEqDiff, reduceIte, Option.map_some, g23, g24, g118, g119, fi, call33_8]) <;> exact rfl)); (case hd => rfl)))
        refine ⟨_, rfl, ?_⟩
        simp only [oneOf, get_set, Nat.reduceEqDiff, reduceIte]
  · have hL : L.length < 1000 := by have := startsN_len hsN; simp at this; omega
    have c11 := fun run h q1 q2 => call33_11s run h q1 q2 x L hL
    have chk_ : True := by simp only [hla, hlb, f1, f2, call33_13, call33_14, hR, c15, c16, hS, zero39, LV.cells, putNew_eq, hnext_empty, hnext_new, hnext_set, Nat.reduceAdd, hget_new, hget_set, Nat.reduceEqDiff, reduceIte, stR, stS, ldR, ldS, oR.may, oR.eq, oS.may, oS.eq, em4, ei4, bb, ii, c10, c17, c12, c18, c9, c19, hg, putGift, call33_20, call33_21, ln, c11]
    clear chk_
    repeat (first | refine EvP.seq ?_ | refine EvP.region ?_ | refine OpsP.nil ?_ | refine GuardP.no ?_ | refine DGuardP.no ?_ | refine DrP.nil ?_ | refine CondP.t ?_ | refine CondP.f ?_ | refine EvP.ret ?_ | refine EvP.skip ?_ | refine EvP.exit ?_ | refine EvP.block ?_ | refine EvP.scope ?_  | ((first | refine OpsP.put (v := ?_) (h1 := ?_) ?hd ?he ?_ | refine OpsP.eff (v := ?_) (h1 := ?_) ?he ?_ | refine GuardP.yes (v := ?_) (h1 := ?_) ?he ?_  | (refine DrP.put (d := ?_) (op := ?_) (t := ?_) (p := ?_) (a := ?_) (v := ?_) (h1 := ?_) ?ho ?hd ?he ?_; (case ho => rfl)) | (refine DrP.eff (op := ?_) (t := ?_) (p := ?_) (a := ?_) (v := ?_) (h1 := ?_) ?ho ?he ?_; (case ho => rfl)) | refine DGuardP.yes (v := ?_) (h1 := ?_) ?he ?_); (try case hd => rfl); (case he => intro run; ((try simp only [evOp, evA, val, vals, oval, parts, get_set, get_nil, ofArgs, ofValue, binOpE, arith, ilt, convertE, unOpE, builtinE, callV, List.nil_append, List.append_nil, Option.bind_some, Option.map_some, Nat.reduceEqDiff, reduceIte, Bool.not_true, Bool.not_false, List.getElem?_cons_zero, List.getElem?_cons_succ, List.getElem?_toArray, Array.toList, List.mapM_cons, List.mapM_nil, Option.pure_def, Option.bind_eq_bind, hla, hlb, f1, f2, call33_13, call33_14, hR, c15, c16, hS, zero39, LV.cells, putNew_eq, hnext_empty, hnext_new, hnext_set, Nat.reduceAdd, hget_new, hget_set, Nat.reduceEqDiff, reduceIte, stR, stS, ldR, ldS, oR.may, oR.eq, oS.may, oS.eq, em4, ei4, bb, ii, c10, c17, c12, c18, c9, c19, hg, putGift, call33_20, call33_21, ln, c11]) <;> exact rfl)))  | ((first | refine OpsP.guard (x := ?_) (b := ?_) ?hj ?hx ?hd ?_ | (refine DrP.guard (d := ?_) (op := ?_) (t := ?_) (p := ?_) (a := ?_) (j := ?_) (w := ?_) (x := ?_) (b := ?_) ?ho ?hj ?hx ?hd ?_; (case ho => rfl)) | refine EvP.condB (c := ?_) ?hx ?_); (try case hj => rfl); (case hx => ((try simp only [val, get_set, get_nil, ofArgs, ofValue, Nat.reduceEqDiff, reduceIte, Option.map_some, hla, hlb, f1, f2, call33_13, call33_14, hR, c15, c16, hS, zero39, LV.cells, putNew_eq, hnext_empty, hnext_new, hnext_set, Nat.reduceAdd, hget_new, hget_set, Nat.reduceEqDiff, reduceIte, stR, stS, ldR, ldS, oR.may, oR.eq, oS.may, oS.eq, em4, ei4, bb, ii, c10, c17, c12, c18, c9, c19, hg, putGift, call33_20, call33_21, ln, c11]) <;> exact rfl)); (try case hd => rfl))  | ((first | refine OpsP.undef (x := ?_) ?hj ?hx ?hd ?_ | (refine DrP.undef (d := ?_) (op := ?_) (t := ?_) (p := ?_) (a := ?_) (j := ?_) (w := ?_) (x := ?_) ?ho ?hj ?hx ?hd ?_; (case ho => rfl))); (case hj => rfl); (case hx => ((try simp only [val, get_set, get_nil, ofArgs, ofValue, Nat.reduceEqDiff, reduceIte, Option.map_some, hla, hlb, f1, f2, call33_13, call33_14, hR, c15, c16, hS, zero39, LV.cells, putNew_eq, hnext_empty, hnext_new, hnext_set, Nat.reduceAdd, hget_new, hget_set, Nat.reduceEqDiff, reduceIte, stR, stS, ldR, ldS, oR.may, oR.eq, oS.may, oS.eq, em4, ei4, bb, ii, c10, c17, c12, c18, c9, c19, hg, putGift, call33_20, call33_21, ln, c11]) <;> exact rfl)); (case hd => rfl)))
    refine EvP.loop (fun m tm h => ∃ B1 B2, tm.get 23 = .slice B1 112 0 113 none 7 ∧ tm.get 24 = .slice B2 112 0 113 none 7 ∧ h.get B1 = some (.row tabCells 112 7) ∧ h.get B2 = some (.row tabCells 112 7) ∧ tm.get 118 = .int .i64 (.ofNat 113) ∧
      ∃ i, m = 113 - i ∧ i ≤ 113 ∧ tm.get 119 = .int .i64 (.ofNat i)) 113 ?_ ?_
    · refine ⟨6, 7, ?h23, ?h24, ?g1, ?g2, ?_, 0, rfl, by omega, ?_⟩
      case h23 => exact (by (try simp only [val, get_set, get_nil, ofArgs, ofValue, Nat.reduceEqDiff, reduceIte, Option.map_some]) <;> exact rfl)
      case h24 => exact (by (try simp only [val, get_set, get_nil, ofArgs, ofValue, Nat.reduceEqDiff, reduceIte, Option.map_some]) <;> exact rfl)
      case g1 => (simp only [hget_set, hget_new, hnext_new, hnext_set, hnext_empty, Nat.reduceAdd, Nat.reduceEqDiff, reduceIte]) <;> rfl
      case g2 => (simp only [hget_set, hget_new, hnext_new, hnext_set, hnext_empty, Nat.reduceAdd, Nat.reduceEqDiff, reduceIte]) <;> rfl
      · exact (by (try simp only [val, get_set, get_nil, ofArgs, ofValue, Nat.reduceEqDiff, reduceIte, Option.map_some]) <;> exact rfl)
      · exact (by (try simp only [val, get_set, get_nil, ofArgs, ofValue, Nat.reduceEqDiff, reduceIte, Option.map_some]) <;> exact rfl)
    · rintro m tm h ⟨B1, B2, g23, g24, hb1, hb2, g118, i, rfl, hi, g119⟩
      by_cases hlt : i < 113
      · have fi : Nat.blt i 113 = true := by rw [blt_eq]; simp [hlt]
        have l1 := htab39 h B1 hb1 i hlt
        have l2 := htab39 h B2 hb2 i hlt
        have oi := row39_at i hlt
        have chk_ : True := by simp only [g23, g24, g118, g119, fi]
        clear chk_
        repeat (first | refine EvP.seq ?_ | refine EvP.region ?_ | refine OpsP.nil ?_ | refine GuardP.no ?_ | refine DGuardP.no ?_ | refine DrP.nil ?_ | refine CondP.t ?_ | refine CondP.f ?_ | refine EvP.ret ?_ | refine EvP.skip ?_ | refine EvP.exit ?_ | refine EvP.block ?_ | refine EvP.scope ?_  | ((first | refine OpsP.put (v := ?_) (h1 := ?_) ?hd ?he ?_ | refine OpsP.eff (v := ?_) (h1 := ?_) ?he ?_ | refine GuardP.yes (v := ?_) (h1 := ?_) ?he ?_  | (refine DrP.put (d := ?_) (op := ?_) (t := ?_) (p := ?_) (a := ?_) (v := ?_) (h1 := ?_) ?ho ?hd ?he ?_; (case ho => rfl)) | (refine DrP.eff (op := ?_) (t := ?_) (p := ?_) (a := ?_) (v := ?_) (h1 := ?_) ?ho ?he ?_; (case ho => rfl)) | refine DGuardP.yes (v := ?_) (h1 := ?_) ?he ?_); (try case hd => rfl); (case he => intro run; ((try simp only [evOp, evA, val, vals, oval, parts, get_set, get_nil, ofArgs, ofValue, binOpE, arith, ilt, convertE, unOpE, builtinE, lenE, callV, List.nil_append, List.append_nil, Option.bind_some, Option.map_some, Nat.reduceEqDiff, reduceIte, Bool.not_true, Bool.not_false, List.getElem?_cons_zero, List.getElem?_cons_succ, List.getElem?_toArray, Array.toList, List.mapM_cons, List.mapM_nil, Option.pure_def, Option.bind_eq_bind, g23, g24, g118, g119, fi]) <;> exact rfl)))  | ((first | refine OpsP.guard (x := ?_) (b := ?_) ?hj ?hx ?hd ?_ | (refine DrP.guard (d := ?_) (op := ?_) (t := ?_) (p := ?_) (a := ?_) (j := ?_) (w := ?_) (x := ?_) (b := ?_) ?ho ?hj ?hx ?hd ?_; (case ho => rfl)) | refine EvP.condB (c := ?_) ?hx ?_); (try case hj => rfl); (case hx => ((try simp only [val, get_set, get_nil, ofArgs, ofValue, Nat.reduceEqDiff, reduceIte, Option.map_some, g23, g24, g118, g119, fi]) <;> exact rfl)); (try case hd => rfl))  | ((first | refine OpsP.undef (x := ?_) ?hj ?hx ?hd ?_ | (refine DrP.undef (d := ?_) (op := ?_) (t := ?_) (p := ?_) (a := ?_) (j := ?_) (w := ?_) (x := ?_) ?ho ?hj ?hx ?hd ?_; (case ho => rfl))); (case hj => rfl); (case hx => ((try simp only [val, get_set, get_nil, ofArgs, ofValue, Nat.reduceEqDiff, reduceIte, Option.map_some, g23, g24, g118, g119, fi]) <;> exact rfl)); (case hd => rfl)))
        refine EvP.draw (ks := [.reads, .reads, .reads, .reads, .reads, .reads, .reads, .reads, .reads]) (ms := [0, 0, 3, 7, 0, 0, 48, 112, 255]) (ord := [0, 1, 2, 3, 4, 5, 6, 7, 8]) ⟨rfl, rfl, by kernel_rfl, by kernel_rfl⟩ ?_
        have chk_ : True := by simp only [g23, g24, g118, g119, ia43 B1 112 i 113 hlt none, ia43 B2 112 i 113 hlt none, l1, l2, oi.may, oi.eq]
        clear chk_
        repeat (first | refine EvP.seq ?_ | refine EvP.region ?_ | refine OpsP.nil ?_ | refine GuardP.no ?_ | refine DGuardP.no ?_ | refine DrP.nil ?_ | refine CondP.t ?_ | refine CondP.f ?_ | refine EvP.ret ?_ | refine EvP.skip ?_ | refine EvP.exit ?_ | refine EvP.block ?_ | refine EvP.scope ?_  | ((first | refine OpsP.put (v := ?_) (h1 := ?_) ?hd ?he ?_ | refine OpsP.eff (v := ?_) (h1 := ?_) ?he ?_ | refine GuardP.yes (v := ?_) (h1 := ?_) ?he ?_  | (refine DrP.put (d := ?_) (op := ?_) (t := ?_) (p := ?_) (a := ?_) (v := ?_) (h1 := ?_) ?ho ?hd ?he ?_; (case ho => rfl)) | (refine DrP.eff (op := ?_) (t := ?_) (p := ?_) (a := ?_) (v := ?_) (h1 := ?_) ?ho ?he ?_; (case ho => rfl)) | refine DGuardP.yes (v := ?_) (h1 := ?_) ?he ?_); (try case hd => rfl); (case he => intro run; ((try simp only [evOp, evA, val, vals, oval, parts, get_set, get_nil, ofArgs, ofValue, binOpE, arith, ilt, convertE, unOpE, builtinE, lenE, callV, List.nil_append, List.append_nil, Option.bind_some, Option.map_some, Nat.reduceEqDiff, reduceIte, Bool.not_true, Bool.not_false, List.getElem?_cons_zero, List.getElem?_cons_succ, List.getElem?_toArray, Array.toList, List.mapM_cons, List.mapM_nil, Option.pure_def, Option.bind_eq_bind, g23, g24, g118, g119, ia43 B1 112 i 113 hlt none, ia43 B2 112 i 113 hlt none, l1, l2, oi.may, oi.eq]) <;> exact rfl)))  | ((first | refine OpsP.guard (x := ?_) (b := ?_) ?hj ?hx ?hd ?_ | (refine DrP.guard (d := ?_) (op := ?_) (t := ?_) (p := ?_) (a := ?_) (j := ?_) (w := ?_) (x := ?_) (b := ?_) ?ho ?hj ?hx ?hd ?_; (case ho => rfl)) | refine EvP.condB (c := ?_) ?hx ?_); (try case hj => rfl); (case hx => ((try simp only [val, get_set, get_nil, ofArgs, ofValue, Nat.reduceEqDiff, reduceIte, Option.map_some, g23, g24, g118, g119, ia43 B1 112 i 113 hlt none, ia43 B2 112 i 113 hlt none, l1, l2, oi.may, oi.eq]) <;> exact rfl)); (try case hd => rfl))  | ((first | refine OpsP.undef (x := ?_) ?hj ?hx ?hd ?_ | (refine DrP.undef (d := ?_) (op := ?_) (t := ?_) (p := ?_) (a := ?_) (j := ?_) (w := ?_) (x := ?_) ?ho ?hj ?hx ?hd ?_; (case ho => rfl))); (case hj => rfl); (case hx => ((try simp only [val, get_set, get_nil, ofArgs, ofValue, Nat.reduceEqDiff, reduceIte, Option.map_some, g23, g24, g118, g119, ia43 B1 112 i 113 hlt none, ia43 B2 112 i 113 hlt none, l1, l2, oi.may, oi.eq]) <;> exact rfl)); (case hd => rfl)))
        refine ⟨fun run => by kernel_rfl, ?_⟩
        have chk_ : True := by simp only [g23, g24, g118, g119]
        clear chk_
        repeat (first | refine EvP.seq ?_ | refine EvP.region ?_ | refine OpsP.nil ?_ | refine GuardP.no ?_ | refine DGuardP.no ?_ | refine DrP.nil ?_ | refine CondP.t ?_ | refine CondP.f ?_ | refine EvP.ret ?_ | refine EvP.skip ?_ | refine EvP.exit ?_ | refine EvP.block ?_ | refine EvP.scope ?_  | ((first | refine OpsP.put (v := ?_) (h1 := ?_) ?hd ?he ?_ | refine OpsP.eff (v := ?_) (h1 := ?_) ?he ?_ | refine GuardP.yes (v := ?_) (h1 := ?_) ?he ?_  | (refine DrP.put (d := ?_) (op := ?_) (t := ?_) (p := ?_) (a := ?_) (v := ?_) (h1 := ?_) ?ho ?hd ?he ?_; (case ho => rfl)) | (refine DrP.eff (op := ?_) (t := ?_) (p := ?_) (a := ?_) (v := ?_) (h1 := ?_) ?ho ?he ?_; (case ho => rfl)) | refine DGuardP.yes (v := ?_) (h1 := ?_) ?he ?_); (try case hd => rfl); (case he => intro run; ((try simp only [evOp, evA, val, vals, oval, parts, get_set, get_nil, ofArgs, ofValue, binOpE, arith, ilt, convertE, unOpE, builtinE, lenE, callV, List.nil_append, List.append_nil, Option.bind_some, Option.map_some, Nat.reduceEqDiff, reduceIte, Bool.not_true, Bool.not_false, List.getElem?_cons_zero, List.getElem?_cons_succ, List.getElem?_toArray, Array.toList, List.mapM_cons, List.mapM_nil, Option.pure_def, Option.bind_eq_bind, g23, g24, g118, g119]) <;> exact rfl)))  | ((first | refine OpsP.guard (x := ?_) (b := ?_) ?hj ?hx ?hd ?_ | (refine DrP.guard (d := ?_) (op := ?_) (t := ?_) (p := ?_) (a := ?_) (j := ?_) (w := ?_) (x := ?_) (b := ?_) ?ho ?hj ?hx ?hd ?_; (case ho => rfl)) | refine EvP.condB (c := ?_) ?hx ?_); (try case hj => rfl); (case hx => ((try simp only [val, get_set, get_nil, ofArgs, ofValue, Nat.reduceEqDiff, reduceIte, Option.map_some, g23, g24, g118, g119]) <;> exact rfl)); (try case hd => rfl))  | ((first | refine OpsP.undef (x := ?_) ?hj ?hx ?hd ?_ | (refine DrP.undef (d := ?_) (op := ?_) (t := ?_) (p := ?_) (a := ?_) (j := ?_) (w := ?_) (x := ?_) ?ho ?hj ?hx ?hd ?_; (case ho => rfl))); (case hj => rfl); (case hx => ((try simp only [val, get_set, get_nil, ofArgs, ofValue, Nat.reduceEqDiff, reduceIte, Option.map_some, g23, g24, g118, g119]) <;> exact rfl)); (case hd => rfl)))
        refine ⟨113 - (i + 1), by omega, B1, B2, ?_, ?_, hb1, hb2, ?_, i + 1, rfl, by omega, ?_⟩
        · exact (by (try simp only [val, get_set, get_nil, ofArgs, ofValue, Nat.reduceEqDiff, reduceIte, Option.map_some, g23]) <;> exact rfl)
        · exact (by (try simp only [val, get_set, get_nil, ofArgs, ofValue, Nat.reduceEqDiff, reduceIte, Option.map_some, g24]) <;> exact rfl)
        · exact (by (try simp only [val, get_set, get_nil, ofArgs, ofValue, Nat.reduceEqDiff, reduceIte, Option.map_some, g118]) <;> exact rfl)
        · simp only [get_set, Nat.reduceEqDiff, reduceIte]
          rw [show Int.ofNat i + 1 = Int.ofNat (i + 1) from rfl, wrap_nat .i64 (i + 1) (by simp only [half]; omega)]
      · have fi : Nat.blt 113 113 = false := rfl
        have : i = 113 := by omega
        subst this
        have chk_ : True := by simp only [g23, g24, g118, g119, fi, call33_8]
        clear chk_
        repeat (first | refine EvP.seq ?_ | refine EvP.region ?_ | refine OpsP.nil ?_ | refine GuardP.no ?_ | refine DGuardP.no ?_ | refine DrP.nil ?_ | refine CondP.t ?_ | refine CondP.f ?_ | refine EvP.ret ?_ | refine EvP.skip ?_ | refine EvP.exit ?_ | refine EvP.block ?_ | refine EvP.scope ?_  | ((first | refine OpsP.put (v := ?_) (h1 := ?_) ?hd ?he ?_ | refine OpsP.eff (v := ?_) (h1 := ?_) ?he ?_ | refine GuardP.yes (v := ?_) (h1 := ?_) ?he ?_  | (refine DrP.put (d := ?_) (op := ?_) (t := ?_) (p := ?_) (a := ?_) (v := ?_) (h1 := ?_) ?ho ?hd ?he ?_; (case ho => rfl)) | (refine DrP.eff (op := ?_) (t := ?_) (p := ?_) (a := ?_) (v := ?_) (h1 := ?_) ?ho ?he ?_; (case ho => rfl)) | refine DGuardP.yes (v := ?_) (h1 := ?_) ?he ?_); (try case hd => rfl); (case he => intro run; ((try simp only [evOp, evA, val, vals, oval, parts, get_set, get_nil, ofArgs, ofValue, binOpE, arith, ilt, convertE, unOpE, builtinE, lenE, callV, List.nil_append, List.append_nil, Option.bind_some, Option.map_some, Nat.reduceEqDiff, reduceIte, Bool.not_true, Bool.not_false, List.getElem?_cons_zero, List.getElem?_cons_succ, List.getElem?_toArray, Array.toList, List.mapM_cons, List.mapM_nil, Option.pure_def, Option.bind_eq_bind, g23, g24, g118, g119, fi, call33_8]) <;> exact rfl)))  | ((first | refine OpsP.guard (x := ?_) (b := ?_) ?hj ?hx ?hd ?_ | (refine DrP.guard (d := ?_) (op := ?_) (t := ?_) (p := ?_) (a := ?_) (j := ?_) (w := ?_) (x := ?_) (b := ?_) ?ho ?hj ?hx ?hd ?_; (case ho => rfl)) | refine EvP.condB (c := ?_) ?hx ?_); (try case hj => rfl); (case hx => ((try simp only [val, get_set, get_nil, ofArgs, ofValue, Nat.reduceEqDiff, reduceIte, Option.map_some, g23, g24, g118, g119, fi, call33_8]) <;> exact rfl)); (try case hd => rfl))  | ((first | refine OpsP.undef (x := ?_) ?hj ?hx ?hd ?_ | (refine DrP.undef (d := ?_) (op := ?_) (t := ?_) (p := ?_) (a := ?_) (j := ?_) (w := ?_) (x := ?_) ?ho ?hj ?hx ?hd ?_; (case ho => rfl))); (case hj => rfl); (case hx => ((try simp only [val, get_set, get_nil, ofArgs, ofValue, Nat.reduceEqDiff, reduceIte, Option.map_some, g23, g24, g118, g119, fi, call33_8]) <;> exact rfl)); (case hd => rfl)))
        refine ⟨_, rfl, ?_⟩
        simp only [oneOf, get_set, Nat.reduceEqDiff, reduceIte]
end Go.Ev

namespace Go.Ev
open Go.Proofs
set_option linter.unusedSimpArgs false
set_option linter.unusedVariables false
theorem rowT36 : rowT Try.prog 36 = false := by kernel_rfl
theorem rowT9 : rowT Try.prog 9 = false := by kernel_rfl
theorem rowT3 : rowT Try.prog 3 = false := by kernel_rfl
theorem args5 {P : Program} {B d : Nat} {t1 t2 t3 t4 t5 : TypeId} {us : List LV} (h : Args P B d [t1, t2, t3, t4, t5] us) : ∃ a b c e f, us = [a, b, c, e, f] ∧ Arg P B d t1 a ∧ Arg P B d t2 b ∧ Arg P B d t3 c ∧ Arg P B d t4 e ∧ Arg P B d t5 f := by
  cases us with
  | nil => exact h.elim
  | cons a us =>
    obtain ⟨h1, h⟩ := h
    cases us with
    | nil => exact h.elim
    | cons b us =>
      obtain ⟨h2, h⟩ := h
      cases us with
      | nil => exact h.elim
      | cons c us =>
        obtain ⟨h3, h⟩ := h
        cases us with
        | nil => exact h.elim
        | cons e us =>
          obtain ⟨h4, h⟩ := h
          cases us with
          | nil => exact h.elim
          | cons f us =>
            obtain ⟨h5, h⟩ := h
            cases us with
            | nil => exact ⟨a, b, c, e, f, rfl, h1, h2, h3, h4, h5⟩
            | cons _ _ => exact h.elim
theorem law_tells {B : Nat} (hB : B ≤ 1048576) (us : List LV) (h : Args Try.prog B 6 [36, 9, 22, 30, 3] us) : ∃ k h1, evF Try.prog ov33 k 6 us Heap.empty = some (.bool true, h1) := by
  obtain ⟨a, b, c, d, e, rfl, ha, hb, hc, hd, he⟩ := args5 h
  have key : ∃ k h1, evF Try.prog ov33 k 6 [a, b, c, d, e] Heap.empty = some (.bool true, h1) := by
    obtain ⟨n, hla, hA⟩ := code_arg hc
    obtain ⟨m, hlb, hW⟩ := words_arg2 (by omega) hd
    obtain ⟨i, e1, hw⟩ : ∃ i, [a] = [LV.int .u32 i] ∧ (Lit.int .u32 i).wf = true := by
      unfold Arg at ha
      rw [rowT36] at ha
      simpa only [Shp, under36] using ha
    cases e1
    have hi : 0 ≤ i ∧ i ≤ 4294967295 := by simpa [Lit.wf, IntKind.min, IntKind.max, IntKind.signed, IntKind.bits] using hw
    obtain ⟨x, rfl⟩ := Int.eq_ofNat_of_zero_le hi.1
    obtain ⟨s, e2, hs1, hs2⟩ : ∃ s, [b] = [LV.str s] ∧ (∀ c ∈ s, c < 256) ∧ s.length ≤ B := by
      unfold Arg at hb
      rw [rowT9] at hb
      simpa only [Shp, under9'] using hb
    cases e2
    obtain ⟨z, e3, _⟩ : ∃ i, [e] = [LV.int .i64 i] ∧ (Lit.int .i64 i).wf = true := by
      unfold Arg at he
      rw [rowT3] at he
      simpa only [Shp, under3] using he
    cases e3
    have done : (∃ r h1, Evc Try.prog ov33 6 [.int .u32 (.ofNat x), .str s, c, d, .int .i64 z] Heap.empty (r, h1) ∧ r = .bool true) := by
      by_cases hn : 400 < n
      · exact tells_longA _ _ c d _ n hla hn
      · by_cases hm : 12 < m
        · exact tells_longB _ _ c d _ n m hla hlb hn hm
        · obtain ⟨A, h1, h2, _⟩ := hA (by omega)
          obtain ⟨ws, h3, h4, h5⟩ := hW (by omega)
          exact tells_body x s ⟨hs1, by omega⟩ c A h1 d ws h3 h5 z (by omega) (by omega)
    obtain ⟨r, h1, ⟨K, hK⟩, rfl⟩ := done
    exact ⟨K, h1, hK K (Nat.le_refl _)⟩
  exact key
end Go.Ev
