/-
  What Check of the package prim computes, as a plain function, and the laws of its map of places; no conditions.
-/
import Derived.Test.YtmgmglfdoffggaaPrD
namespace Go.Ev
open Go.Proofs
set_option linter.unusedSimpArgs false
set_option linter.unusedVariables false
set_option maxHeartbeats 2000000
/-! ## Check: what it computes -/
abbrev Wd := List Nat × Nat × List Nat
def jumpsN (x : Nat) : Bool := match spotN x with
  | .ofNat j => (rowOfTab j).2.2.2.2.2.2
  | .negSucc _ => false
def startsOf (ws : List Wd) (j : Nat) : List Nat := match ws[j]? with
  | some w => (startsN w.2.2).getD []
  | none => []
def placeB (ws : List Wd) (n a b : Nat) : Bool := decide (a < n) && decide (b ∈ startsOf ws a)
def instB (ws : List Wd) (i : Nat) (r : List Nat) : Bool := match r with
  | [] => true
  | x :: r => if 256 ≤ x then decide (x - 256 ≤ i) else if jumpsN x = true then placeB ws (i + 1) i (r.getD 0 0) else if x = 139 then decide (r.getD 0 0 < i) && placeB ws (i + 1) (r.getD 0 0) (r.getD 1 0) else true
def wordB (ws : List Wd) (i : Nat) : Bool := match ws[i]? with
  | none => true
  | some w => match startsN w.2.2 with
    | none => false
    | some L => rightW w.1 w.2.1 w.2.2.length && !L.isEmpty && decide (w.2.2.getD (L.getD (L.length - 1) 0) 0 = 101) && L.all fun at_ => instB ws i (w.2.2.drop at_)
def checkFrom (ws : List Wd) : Nat → Nat → Int
  | 0, _ => -1
  | k + 1, i => match wordB ws i with
    | true => checkFrom ws k (i + 1)
    | false => .ofNat i
def checkN (ws : List Wd) : Int := checkFrom ws ws.length 0

/-! jumps -/
def fJumps : Pure
  | [.int .u32 (.ofNat x)] => some (none, fun _ => .bool (jumpsN x))
  | _ => none
theorem call21_13 (run : Run) (h : Heap) (n : Nat) : callE Try.prog ov21 run 13 [.int .u32 (.ofNat n)] h = some (getN n, h) := rfl
theorem jumps_body (x : Nat) : ∃ r h1, Evc Try.prog ov21 25 [.int .u32 (.ofNat x)] Heap.empty (r, h1) ∧ r = .bool (jumpsN x) := by
  rcases spotN_lt x with hs | ⟨j, hj, hs⟩
  · have hg : getN x = .tuple [.agg noRow, .bool false] := by unfold getN; rw [hs]; rfl
    have st : storeAt Try.prog 39 (.ptr 0 0 0) (.agg noRow) (Heap.empty.new (.row noRow 0 0)).2 = some ((Heap.empty.new (.row noRow 0 0)).2.set 0 (.row noRow 0 0)) := store_fresh (cs := noRow) (by simp only [hget_new, hnext_empty, reduceIte]) rfl rfl rfl
    have l6 : loadAt Try.prog 4 (.ptr 0 0 (0 + 6)) ((Heap.empty.new (.row noRow 0 0)).2.set 0 (.row noRow 0 0)) = some (.bool false) := by simp only [loadAt, agg4, readN, hget_set, reduceIte]; rfl
    refine Evc.of rfl Try.func25 rfl rfl ?_
    have chk_ : True := by simp only [call21_13, hg, zero39, LV.cells, putNew_eq, hnext_empty, st, l6, fa39_6]
    clear chk_
    repeat (first | refine EvP.seq ?_ | refine EvP.region ?_ | refine OpsP.nil ?_ | refine GuardP.no ?_ | refine DGuardP.no ?_ | refine DrP.nil ?_ | refine CondP.t ?_ | refine CondP.f ?_ | refine EvP.ret ?_ | refine EvP.skip ?_ | refine EvP.exit ?_ | refine EvP.block ?_ | refine EvP.scope ?_  | ((first | refine OpsP.put (v := ?_) (h1 := ?_) ?hd ?he ?_ | refine OpsP.eff (v := ?_) (h1 := ?_) ?he ?_ | refine GuardP.yes (v := ?_) (h1 := ?_) ?he ?_  | (refine DrP.put (d := ?_) (op := ?_) (t := ?_) (p := ?_) (a := ?_) (v := ?_) (h1 := ?_) ?ho ?hd ?he ?_; (case ho => rfl)) | (refine DrP.eff (op := ?_) (t := ?_) (p := ?_) (a := ?_) (v := ?_) (h1 := ?_) ?ho ?he ?_; (case ho => rfl)) | refine DGuardP.yes (v := ?_) (h1 := ?_) ?he ?_); (try case hd => rfl); (case he => intro run; ((try simp only [evOp, evA, val, vals, oval, parts, get_set, get_nil, ofArgs, ofValue, binOpE, arith, ilt, convertE, unOpE, builtinE, lenE, callV, List.nil_append, List.append_nil, Option.bind_some, Option.map_some, Nat.reduceEqDiff, reduceIte, Bool.not_true, Bool.not_false, List.getElem?_cons_zero, List.getElem?_cons_succ, List.getElem?_toArray, Array.toList, List.mapM_cons, List.mapM_nil, Option.pure_def, Option.bind_eq_bind, call21_13, hg, zero39, LV.cells, putNew_eq, hnext_empty, st, l6, fa39_6]) <;> exact rfl)))  | ((first | refine OpsP.guard (x := ?_) (b := ?_) ?hj ?hx ?hd ?_ | (refine DrP.guard (d := ?_) (op := ?_) (t := ?_) (p := ?_) (a := ?_) (j := ?_) (w := ?_) (x := ?_) (b := ?_) ?ho ?hj ?hx ?hd ?_; (case ho => rfl)) | refine EvP.condB (c := ?_) ?hx ?_); (try case hj => rfl); (case hx => ((try simp only [val, get_set, get_nil, ofArgs, ofValue, Nat.reduceEqDiff, reduceIte, Option.map_some, call21_13, hg, zero39, LV.cells, putNew_eq, hnext_empty, st, l6, fa39_6]) <;> exact rfl)); (try case hd => rfl)))
    refine ⟨_, rfl, ?_⟩
    simp only [oneOf, get_set, Nat.reduceEqDiff, reduceIte, jumpsN, hs]
    rfl
  · obtain ⟨a, nm, c, d, e, f, g, hrow, hcells, he, hf, hg'⟩ := row_data j hj
    have hg : getN x = .tuple [.agg [.int .u32 (.ofNat a), .str nm, .int .i64 (.ofNat c), .int .i64 (.ofNat d), .int .i64 (.ofNat e), .bool f, .bool g], .bool true] := by rw [getN_of x j hs, hcells]
    have st : storeAt Try.prog 39 (.ptr 0 0 0) (.agg [.int .u32 (.ofNat a), .str nm, .int .i64 (.ofNat c), .int .i64 (.ofNat d), .int .i64 (.ofNat e), .bool f, .bool g]) (Heap.empty.new (.row noRow 0 0)).2 = some ((Heap.empty.new (.row noRow 0 0)).2.set 0 (.row [.int .u32 (.ofNat a), .str nm, .int .i64 (.ofNat c), .int .i64 (.ofNat d), .int .i64 (.ofNat e), .bool f, .bool g] 0 0)) := store_fresh (cs := noRow) (by simp only [hget_new, hnext_empty, reduceIte]) rfl rfl rfl
    have l6 : loadAt Try.prog 4 (.ptr 0 0 (0 + 6)) ((Heap.empty.new (.row noRow 0 0)).2.set 0 (.row [.int .u32 (.ofNat a), .str nm, .int .i64 (.ofNat c), .int .i64 (.ofNat d), .int .i64 (.ofNat e), .bool f, .bool g] 0 0)) = some (.bool g) := by simp only [loadAt, agg4, readN, hget_set, reduceIte]; rfl
    refine Evc.of rfl Try.func25 rfl rfl ?_
    have chk_ : True := by simp only [call21_13, hg, zero39, LV.cells, putNew_eq, hnext_empty, st, l6, fa39_6]
    clear chk_
    repeat (first | refine EvP.seq ?_ | refine EvP.region ?_ | refine OpsP.nil ?_ | refine GuardP.no ?_ | refine DGuardP.no ?_ | refine DrP.nil ?_ | refine CondP.t ?_ | refine CondP.f ?_ | refine EvP.ret ?_ | refine EvP.skip ?_ | refine EvP.exit ?_ | refine EvP.block ?_ | refine EvP.scope ?_  | ((first | refine OpsP.put (v := ?_) (h1 := ?_) ?hd ?he ?_ | refine OpsP.eff (v := ?_) (h1 := ?_) ?he ?_ | refine GuardP.yes (v := ?_) (h1 := ?_) ?he ?_  | (refine DrP.put (d := ?_) (op := ?_) (t := ?_) (p := ?_) (a := ?_) (v := ?_) (h1 := ?_) ?ho ?hd ?he ?_; (case ho => rfl)) | (refine DrP.eff (op := ?_) (t := ?_) (p := ?_) (a := ?_) (v := ?_) (h1 := ?_) ?ho ?he ?_; (case ho => rfl)) | refine DGuardP.yes (v := ?_) (h1 := ?_) ?he ?_); (try case hd => rfl); (case he => intro run; ((try simp only [evOp, evA, val, vals, oval, parts, get_set, get_nil, ofArgs, ofValue, binOpE, arith, ilt, convertE, unOpE, builtinE, lenE, callV, List.nil_append, List.append_nil, Option.bind_some, Option.map_some, Nat.reduceEqDiff, reduceIte, Bool.not_true, Bool.not_false, List.getElem?_cons_zero, List.getElem?_cons_succ, List.getElem?_toArray, Array.toList, List.mapM_cons, List.mapM_nil, Option.pure_def, Option.bind_eq_bind, call21_13, hg, zero39, LV.cells, putNew_eq, hnext_empty, st, l6, fa39_6]) <;> exact rfl)))  | ((first | refine OpsP.guard (x := ?_) (b := ?_) ?hj ?hx ?hd ?_ | (refine DrP.guard (d := ?_) (op := ?_) (t := ?_) (p := ?_) (a := ?_) (j := ?_) (w := ?_) (x := ?_) (b := ?_) ?ho ?hj ?hx ?hd ?_; (case ho => rfl)) | refine EvP.condB (c := ?_) ?hx ?_); (try case hj => rfl); (case hx => ((try simp only [val, get_set, get_nil, ofArgs, ofValue, Nat.reduceEqDiff, reduceIte, Option.map_some, call21_13, hg, zero39, LV.cells, putNew_eq, hnext_empty, st, l6, fa39_6]) <;> exact rfl)); (try case hd => rfl)))
    refine ⟨_, rfl, ?_⟩
    simp only [oneOf, get_set, Nat.reduceEqDiff, reduceIte, jumpsN, hs, hrow]
theorem jumps_ok : PureOk Try.prog ov21 25 fJumps := pureOk_of fun vs p hp => by
  unfold fJumps at hp
  split at hp
  · rename_i x
    cases hp
    obtain ⟨r, h1, k1, rfl⟩ := jumps_body x
    exact ⟨_, h1, k1, rfl⟩
  · cases hp
def ov22 : Ov := ov21.with 25 fJumps
theorem ov22_ok : OvOk Try.prog ov22 := Ov.with_ok prog_ok ov21_ok jumps_ok
theorem call22_25 (run : Run) (h : Heap) (x : Nat) : callE Try.prog ov22 run 25 [.int .u32 (.ofNat x)] h = some (.bool (jumpsN x), h) := rfl
theorem call22_23 (run : Run) {h : Heap} {cd : LV} {cs : List Nat} (hc : CodeV h cd cs) : callE Try.prog ov22 run 23 [cd] h = some (putGift h (startsGift cs)) := by
  obtain ⟨v, h1, h2⟩ := hc
  show pureCall fStarts _ h = _
  rw [pure1 h1]
  simp only [fStarts, h2, Option.map_some]
theorem codeOf_codeLen {cd : LV} {cs : List Nat} (h : codeOf cd = some cs) : codeLen cd = some cs.length := by
  rcases codeOf_shape h with ⟨rfl, rfl⟩ | rfl <;> rfl
theorem freeze_code {cd : LV} {cs : List Nat} (h : codeOf cd = some cs) (hp : Heap) (d : Nat) : freezeV hp (d + 2) cd = some cd := by
  rcases codeOf_shape h with ⟨rfl, rfl⟩ | rfl
  · rfl
  · show ((u32s cs).mapM (freezeV hp (d + 1))).map (fun us => LV.vs us cs.length) = _
    rw [mapM_bare hp (d + 1) _ (u32s_bare cs d)]; rfl
theorem freeze_word {cd : LV} {cs : List Nat} (hcd : codeOf cd = some cs) (hp : Heap) (nm : List Nat) (fl : Int) (d : Nat) : freezeV hp (d + 3) (.agg [.str nm, .int .u8 fl, cd]) = some (.agg [.str nm, .int .u8 fl, cd]) := by
  show (([LV.str nm, .int .u8 fl, cd].mapM (freezeV hp (d + 2))).map LV.agg) = _
  simp only [List.mapM_cons, List.mapM_nil, freeze_code hcd hp d, Option.pure_def, Option.bind_eq_bind, Option.bind_some]
  rfl
theorem call22_22 (run : Run) (h : Heap) {cd : LV} {cs : List Nat} (hcd : codeOf cd = some cs) (nm : List Nat) (fl : Nat) (hs : strOk nm) : callE Try.prog ov22 run 22 [.agg [.str nm, .int .u8 (.ofNat fl), cd]] h = some (.bool (rightW nm fl cs.length), h) := by
  show pureCall fRight _ h = _
  rw [pure1 (freeze_word hcd h nm _ 7)]
  simp only [fRight, codeOf_codeLen hcd, Option.bind_some, if_pos hs, Option.map_some, putGift]
/-! the map of places -/
def keyLV (k : Nat × Nat) : LV := .agg [.int .u32 (.ofNat k.1), .int .u32 (.ofNat k.2)]
def entsF : List (Nat × Nat) → Nat → List Entry
  | [], _ => []
  | k :: S, n => ⟨keyLV k, .int .i64 1, n⟩ :: entsF S (n + 1)
theorem entsF_app : ∀ (S T : List (Nat × Nat)) (n : Nat), entsF (S ++ T) n = entsF S n ++ entsF T (n + S.length)
  | [], T, n => by simp [entsF]
  | k :: S, T, n => by
    simp only [List.cons_append, entsF, entsF_app S T (n + 1), List.length_cons]
    rw [show n + 1 + S.length = n + (S.length + 1) by omega]
theorem entsF_len : ∀ (S : List (Nat × Nat)) (n : Nat), (entsF S n).length = S.length
  | [], _ => rfl
  | k :: S, n => by simp [entsF, entsF_len S]
theorem eq52 (a b a' b' : Nat) : eqIn Try.prog 20 52 (keyLV (a, b)) (keyLV (a', b')) = (match Nat.beq a a' with | true => (match Nat.beq b b' with | true => some true | false => some false) | false => some false) := by kernel_rfl
theorem eq52_iff (k k' : Nat × Nat) : eqIn Try.prog 20 52 (keyLV k) (keyLV k') = some (decide (k = k')) := by
  obtain ⟨a, b⟩ := k
  obtain ⟨a', b'⟩ := k'
  rw [eq52, beq_eq, beq_eq]
  by_cases h1 : a = a'
  · by_cases h2 : b = b'
    · simp [h1, h2]
    · simp [h1, h2]
  · simp [h1]
theorem keyEq_none (k : Nat × Nat) : ∀ (S : List (Nat × Nat)) (n i : Nat), k ∉ S → keyEq Try.prog 52 (keyLV k) (entsF S n) i = some none
  | [], _, _, _ => rfl
  | k' :: S, n, i, h => by
    have h1 : ¬ k = k' := fun e => h (by simp [e])
    simp only [entsF, keyEq, eq52_iff, h1, decide_false, Option.bind_some]
    exact keyEq_none k S (n + 1) (i + 1) fun e => h (List.mem_cons_of_mem _ e)
theorem keyEq_some (k : Nat × Nat) : ∀ (S : List (Nat × Nat)) (n i : Nat), k ∈ S → ∃ j, keyEq Try.prog 52 (keyLV k) (entsF S n) i = some (some (j, .int .i64 1))
  | [], _, _, h => by cases h
  | k' :: S, n, i, h => by
    by_cases h1 : k = k'
    · simp only [entsF, keyEq, eq52_iff, h1, decide_true, Option.bind_some]
      exact ⟨_, rfl⟩
    · simp only [entsF, keyEq, eq52_iff, h1, decide_false, Option.bind_some]
      exact keyEq_some k S (n + 1) (i + 1) (by rcases List.mem_cons.1 h with e | e; exact absurd e h1; exact e)
theorem keyEq_app (k : Nat × Nat) (e : List Entry) : ∀ (S : List (Nat × Nat)) (n i : Nat), k ∉ S → keyEq Try.prog 52 (keyLV k) (entsF S n ++ e) i = keyEq Try.prog 52 (keyLV k) e (i + S.length)
  | [], _, _, _ => rfl
  | k' :: S, n, i, h => by
    have h1 : ¬ k = k' := fun e => h (by simp [e])
    simp only [entsF, List.cons_append, keyEq, eq52_iff, h1, decide_false, Option.bind_some, List.length_cons]
    rw [keyEq_app k e S (n + 1) (i + 1) fun e => h (List.mem_cons_of_mem _ e)]
    rw [show i + 1 + S.length = i + (S.length + 1) by omega]
theorem under50 : Try.prog.underlying 50 = some (.map 52 3) := by kernel_rfl
theorem keyOk52 (k : Nat × Nat) : keyOk Try.prog 5 52 (keyLV k) = true := by obtain ⟨a, b⟩ := k; kernel_rfl
theorem look50 {h : Heap} {mb : Nat} {S : List (Nat × Nat)} {c : Nat} (hm : h.get mb = some (.map (entsF S 0) c)) (k : Nat × Nat) : lookupE Try.prog 50 (.map mb) (keyLV k) false h = some (.int .i64 (.ofNat (if k ∈ S then 1 else 0))) := by
  simp only [lookupE, under50, keyOk52, hm, Option.bind_some]
  by_cases hk : k ∈ S
  · obtain ⟨j, hj⟩ := keyEq_some k S 0 0 hk
    rw [hj, if_pos hk]; rfl
  · rw [keyEq_none k S 0 0 hk, if_neg hk]
    simp only [Option.bind_some, zero3, Option.map_some]
    rfl
theorem entry50 {h : Heap} {mb : Nat} {S : List (Nat × Nat)} (hm : h.get mb = some (.map (entsF S 0) S.length)) (k : Nat × Nat) (hk : k ∉ S) :
    mapEntryE Try.prog 50 (.map mb) (keyLV k) h = some (.tuple [.int .i64 0, .int .i64 (.ofNat S.length)], h.set mb (.map (entsF S 0 ++ [⟨keyLV k, .int .i64 0, S.length⟩]) (S.length + 1))) := by
  simp only [mapEntryE, under50, keyOk52, hm, keyEq_none k S 0 0 hk, Option.bind_some, zero3, Option.map_some]
theorem bornAt_app : ∀ (S : List (Nat × Nat)) (n m i : Nat) (e : Entry), n + S.length ≤ m → e.born = m → bornAt m (entsF S n ++ [e]) i = some (i + S.length)
  | [], n, m, i, e, _, h => by
    have : Nat.beq e.born m = true := by rw [beq_eq]; simp [h]
    simp only [entsF, List.nil_append, bornAt, this]; rfl
  | k :: S, n, m, i, e, hn, h => by
    have : Nat.beq n m = false := by rw [beq_eq]; simp at hn ⊢; omega
    simp only [entsF, List.cons_append, bornAt, this]
    rw [bornAt_app S (n + 1) m (i + 1) e (by simp at hn; omega) h]
    simp; omega
theorem modify_last (f : Entry → Entry) (e : Entry) : ∀ (l : List Entry), modifyAt f l.length (l ++ [e]) = l ++ [f e]
  | [] => rfl
  | x :: l => by simp [modifyAt, modify_last f e l]
theorem store50 {h : Heap} {mb : Nat} {S : List (Nat × Nat)} {k : Nat × Nat} (hm : h.get mb = some (.map (entsF S 0 ++ [⟨keyLV k, .int .i64 0, S.length⟩]) (S.length + 1))) :
    entryStoreE (.map mb) (.int .i64 (.ofNat S.length)) (.int .i64 1) h = some (h.set mb (.map (entsF (S ++ [k]) 0) (S.length + 1))) := by
  have h1 := bornAt_app S 0 S.length 0 ⟨keyLV k, .int .i64 0, S.length⟩ (by omega) rfl
  rw [Nat.zero_add] at h1
  have h2 := modify_last (fun e => { e with val := .int .i64 1 }) ⟨keyLV k, .int .i64 0, S.length⟩ (entsF S 0)
  rw [entsF_len] at h2
  simp only [entryStoreE, asNat?, Option.bind_some, hm, h1, Option.map_some, h2]
  rw [entsF_app]
  simp [entsF]
end Go.Ev

namespace Go.Ev
open Go.Proofs
set_option linter.unusedSimpArgs false
set_option linter.unusedVariables false
set_option maxHeartbeats 4000000
def parseW : List LV → Option (List Wd)
  | [] => some []
  | .str nm :: .int .u8 (.ofNat fl) :: cd :: rest => (codeOf cd).bind fun cs => if strOk nm ∧ fl < 256 ∧ (cs.all fun x => decide (x < 4294967296)) = true then (parseW rest).map ((nm, fl, cs) :: ·) else none
  | _ => none
def wordsOf : LV → Option (List Wd)
  | .nils => some []
  | .vs cells n => (parseW cells).bind fun ws => if ws.length = n ∧ n < 1048576 then some ws else none
  | _ => none
theorem parse_at : ∀ (cells : List LV) (ws : List Wd), parseW cells = some ws → cells.length = ws.length * 3 ∧
    ∀ (i : Nat) (w : Wd), ws[i]? = some w → ∃ cd, codeOf cd = some w.2.2 ∧ strOk w.1 ∧ w.2.1 < 256 ∧ (∀ x ∈ w.2.2, x < 4294967296) ∧ (cells.drop (i * 3)).take 3 = [.str w.1, .int .u8 (.ofNat w.2.1), cd]
  | cells, ws, h => by
    unfold parseW at h
    split at h
    · cases h; exact ⟨rfl, fun i w hi => by cases hi⟩
    · rename_i nm fl cd rest
      obtain ⟨cs, h1, h⟩ := bnd h
      split at h
      · rename_i hc
        obtain ⟨ws', h2, e⟩ := mp h
        subst e
        obtain ⟨k1, k2⟩ := parse_at rest ws' h2
        refine ⟨by simp [k1]; omega, fun i w hi => ?_⟩
        cases i with
        | zero => cases hi; exact ⟨cd, h1, hc.1, hc.2.1, fun x hx => by simpa using List.all_eq_true.1 hc.2.2 x hx, rfl⟩
        | succ i =>
          obtain ⟨cd', q1, q2, q3, q4, q5⟩ := k2 i w (by simpa using hi)
          refine ⟨cd', q1, q2, q3, q4, ?_⟩
          rw [show (i + 1) * 3 = i * 3 + 3 by omega]
          exact q5
      · cases h
    · cases h
theorem under30 : Try.prog.underlying 30 = some (.slice 32) := by kernel_rfl
theorem sz32 : szOf Try.prog 32 = some 3 := by kernel_rfl
theorem agg32 : isAggB Try.prog 32 = some true := by kernel_rfl
theorem zero32 : zeroLV Try.prog 32 = some (.agg [.str [], .int .u8 0, .nils]) := by kernel_rfl
theorem words_len {v : LV} {ws : List Wd} (h : wordsOf v = some ws) : ws.length < 1048576 ∧ ∀ hp, lenE Try.prog 30 v hp = some (.int .i64 (.ofNat ws.length)) := by
  unfold wordsOf at h
  split at h
  · cases h; exact ⟨by decide, fun hp => by simp only [lenE, under30, lenOf?, Option.map_some]; rfl⟩
  · rename_i cells n
    obtain ⟨ws', h1, h⟩ := bnd h
    split at h
    · rename_i hn
      cases h
      exact ⟨by omega, fun hp => by simp only [lenE, under30, lenOf?, Option.map_some, hn.1]⟩
    · cases h
  · cases h
theorem words_at {v : LV} {ws : List Wd} (h : wordsOf v = some ws) (i : Nat) (w : Wd) (hi : ws[i]? = some w) : ∃ p cd, codeOf cd = some w.2.2 ∧ strOk w.1 ∧ w.2.1 < 256 ∧ (∀ x ∈ w.2.2, x < 4294967296) ∧
    indexAddrOp Try.prog 30 v (.int .i64 (.ofNat i)) = some p ∧ ∀ hp, loadAt Try.prog 32 p hp = some (.agg [.str w.1, .int .u8 (.ofNat w.2.1), cd]) := by
  unfold wordsOf at h
  split at h
  · cases h; cases hi
  · rename_i cells n
    obtain ⟨ws', h1, h⟩ := bnd h
    split at h
    · rename_i hn
      cases h
      obtain ⟨k1, k2⟩ := parse_at _ _ h1
      obtain ⟨cd, q1, q2, q3, q4, q5⟩ := k2 i w hi
      have hlt : i < ws.length := (List.getElem?_eq_some_iff.1 hi).1
      refine ⟨.vptr (cells.drop (i * 3)), cd, q1, q2, q3, q4, ?_, fun hp => ?_⟩
      · have f1 : Nat.blt i n = true := by rw [blt_eq]; simp; omega
        have f2 : Nat.ble (i * 3) cells.length = true := by rw [ble_eq]; simp; omega
        simp only [indexAddrOp, asNat?, Option.bind_some, under30, sz32, f1, f2, Bool.and_self]
      · have f3 : Nat.ble 3 (cells.drop (i * 3)).length = true := by rw [ble_eq]; simp; omega
        simp only [loadAt, agg32, sz32, Option.bind_some, f3, q5]
    · cases h
  · cases h
theorem code_drop {cd : LV} {cs : List Nat} (h : codeOf cd = some cs) (K : Nat) (hK : K ≤ cs.length) :
    ∃ v, codeOf v = some (cs.drop K) ∧ ∀ hp, sliceAtOp Try.prog 22 cd (some (.int .i64 (.ofNat K))) none none hp = some v := by
  have hL := codeOf_len h
  rcases codeOf_shape h with ⟨rfl, rfl⟩ | rfl
  · have : K = 0 := by simpa using hK
    subst this
    exact ⟨.nils, rfl, fun hp => by simp only [sliceAtOp, under22, sz36, Option.bind_some]; rfl⟩
  · refine ⟨.vs (u32s (cs.drop K)) (cs.length - K), ?_, fun hp => ?_⟩
    · simp only [codeOf]
      rw [if_pos ⟨by simp [u32s], by omega⟩, mapM_u32s]
    · have hb : bounds3 cs.length cs.length (some (.int .i64 (.ofNat K))) none none = some (K, cs.length, none) := by
        have h1 : (Nat.ble cs.length cs.length && Nat.ble K cs.length) = true := by
          have a : Nat.ble K cs.length = true := by rw [ble_eq]; simp [hK]
          have b : Nat.ble cs.length cs.length = true := by rw [ble_eq]; simp
          rw [a, b]; rfl
        simp only [bounds3, optNat, asNat?, Option.bind_some, h1]
      simp only [sliceAtOp, under22, sz36, Option.bind_some, hb, Option.map_some]
      have hl : (u32s cs).length = cs.length * 1 := by simp [u32s]
      rw [← hl, List.take_length, Nat.mul_one]
      simp [u32s, List.map_drop]
theorem startsF_mem : ∀ (k at_ : Nat) (cs l : List Nat), startsF k at_ cs = some l → ∀ y ∈ l, insN (cs.drop (y - at_)) ≠ 0
  | k, at_, cs, [], _ => by simp
  | k, at_, cs, z :: l, h => by
    obtain ⟨rfl, n, k', rfl, hn, hc, h1⟩ := startsF_cons h
    intro y hy
    rcases List.mem_cons.1 hy with rfl | hy
    · rw [Nat.sub_self, List.drop_zero, hn]; simp
    · have h2 := startsF_mem k' _ _ l h1 y hy
      have h3 := startsF_ge k' _ _ l h1 y hy
      rw [List.drop_drop] at h2
      rwa [show n + 1 + (y - (z + (n + 1))) = y - z by omega] at h2
theorem startsF_lt_next : ∀ (k at_ : Nat) (cs l : List Nat), startsF k at_ cs = some l → l.Pairwise (· < ·)
  | k, at_, cs, [], _ => .nil
  | k, at_, cs, z :: l, h => by
    obtain ⟨rfl, n, k', rfl, hn, hc, h1⟩ := startsF_cons h
    refine .cons (fun y hy => ?_) (startsF_lt_next k' _ _ l h1)
    have := startsF_ge k' _ _ l h1 y hy
    omega
theorem insN_len {x : Nat} {r : List Nat} (h : insN (x :: r) ≠ 0) (hx : ¬ 256 ≤ x) : ∃ j, j < 113 ∧ spotN x = .ofNat j ∧ (rowOfTab j).2.2.2.2.1 ≤ r.length := by
  unfold insN at h
  simp only [if_neg hx] at h
  cases hs : spotN x with
  | negSucc j => rw [hs] at h; simp at h
  | ofNat j =>
    rw [hs] at h
    simp only at h
    by_cases h1 : r.length < (rowOfTab j).2.2.2.2.1
    · rw [if_pos h1] at h; exact absurd rfl h
    · exact ⟨j, spot_row hs, rfl, by omega⟩
theorem jumps_len {x : Nat} {r : List Nat} (h : insN (x :: r) ≠ 0) (hx : ¬ 256 ≤ x) (hj : jumpsN x = true) : 1 ≤ r.length := by
  obtain ⟨j, h1, h2, h3⟩ := insN_len h hx
  have hj : (rowOfTab j).2.2.2.2.2.2 = true := by simpa only [jumpsN, h2] using hj
  obtain ⟨a, nm, c, d, e, f, g, hr, _, _, _, hg⟩ := row_data j h1
  rw [hr] at hj h3
  have := hg hj
  simp only at h3; omega
theorem away_len {r : List Nat} (h : insN (139 :: r) ≠ 0) : 2 ≤ r.length := by
  obtain ⟨j, h1, h2, h3⟩ := insN_len h (by decide)
  have : spotN 139 = .ofNat 111 := rfl
  rw [this] at h2
  cases h2
  have : (rowOfTab 111).2.2.2.2.1 = 2 := by decide +kernel
  omega
theorem jumps_away : jumpsN 139 = false := by decide +kernel
/-! places -/
def placesTo (ws : List Wd) (n : Nat) : List (Nat × Nat) := (List.range n).flatMap fun j => (startsOf ws j).map fun b => (j, b)
theorem placesTo_succ (ws : List Wd) (n : Nat) : placesTo ws (n + 1) = placesTo ws n ++ (startsOf ws n).map fun b => (n, b) := by
  simp [placesTo, List.range_succ]
theorem mem_places (ws : List Wd) (n a b : Nat) : (a, b) ∈ placesTo ws n ↔ a < n ∧ b ∈ startsOf ws a := by
  simp only [placesTo, List.mem_flatMap, List.mem_range, List.mem_map, Prod.mk.injEq]
  constructor
  · rintro ⟨j, hj, c, hc, rfl, rfl⟩; exact ⟨hj, hc⟩
  · rintro ⟨h1, h2⟩; exact ⟨a, h1, b, h2, rfl, rfl⟩
theorem placeB_eq (ws : List Wd) (n a b : Nat) : placeB ws n a b = decide ((a, b) ∈ placesTo ws n) := by
  simp only [placeB, mem_places, Bool.decide_and]
theorem build52 (a b : Nat) : buildAt Try.prog 52 [(0, .int .u32 (.ofNat a)), (1, .int .u32 (.ofNat b))] = some (keyLV (a, b)) := by kernel_rfl
end Go.Ev
