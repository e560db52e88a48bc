/-
  What PrimStarts computes, walked by the evaluator: true for all that can be handed in; no conditions.
-/
import Derived.Test.YtmgmglfdoffggaaPrC
import Derived.Test.YtmgmglfdoffggaaEvC
namespace Go.Ev
open Go.Proofs
set_option linter.unusedSimpArgs false
set_option linter.unusedVariables false
set_option maxHeartbeats 4000000
theorem startsF_len : ∀ (k at_ : Nat) (cs l : List Nat), startsF k at_ cs = some l → l.length ≤ cs.length
  | k, at_, cs, [], _ => by simp
  | k, at_, cs, y :: l, h => by
    obtain ⟨rfl, n, k', rfl, hn, hc, h1⟩ := startsF_cons h
    have := startsF_len _ _ _ _ h1
    have := insN_le cs
    simp at *
    omega
theorem startsN_len {cs l : List Nat} (h : startsN cs = some l) : l.length ≤ cs.length := startsF_len _ _ _ _ h
theorem code_take {cd : LV} {cs : List Nat} (h : codeOf cd = some cs) (K : Nat) (hK : K ≤ cs.length) :
    ∃ v, codeOf v = some (cs.take K) ∧ ∀ hp, sliceAtOp Try.prog 22 cd none (some (.int .i64 (.ofNat K))) none hp = some v := by
  have hL := codeOf_len h
  rcases codeOf_shape h with ⟨rfl, rfl⟩ | rfl
  · have : K = 0 := by simpa using hK
    subst this
    exact ⟨.nils, rfl, fun hp => by simp only [sliceAtOp, under22, sz36, Option.bind_some]; rfl⟩
  · refine ⟨.vs (u32s (cs.take K)) K, ?_, fun hp => ?_⟩
    · simp only [codeOf]
      rw [if_pos ⟨by simp [u32s]; omega, by omega⟩, mapM_u32s]
    · have hb : bounds3 cs.length cs.length none (some (.int .i64 (.ofNat K))) none = some (0, K, none) := by
        have h1 : (Nat.ble K cs.length && Nat.ble 0 K) = true := by
          have a : Nat.ble K cs.length = true := by rw [ble_eq]; simp [hK]
          have b : Nat.ble 0 K = true := by rw [ble_eq]; simp
          rw [a, b]; rfl
        simp only [bounds3, optNat, asNat?, Option.bind_some, h1]
      simp only [sliceAtOp, under22, sz36, Option.bind_some, hb, Option.map_some]
      simp [u32s, List.map_take]
theorem code_view {cd : LV} {cs : List Nat} (h : codeOf cd = some cs) (hp : Heap) : viewCells hp cd = some (u32s cs) := by
  rcases codeOf_shape h with ⟨rfl, rfl⟩ | rfl <;> rfl
theorem code_lenOf {cd : LV} {cs : List Nat} (h : codeOf cd = some cs) : lenOf? cd = some cs.length := by
  rcases codeOf_shape h with ⟨rfl, rfl⟩ | rfl <;> rfl
theorem startsF_lt : ∀ (k at_ : Nat) (cs l : List Nat), startsF k at_ cs = some l → ∀ x ∈ l, x < at_ + cs.length
  | k, at_, cs, [], _ => by simp
  | k, at_, cs, y :: l, h => by
    obtain ⟨rfl, n, k', rfl, hn, hc, h1⟩ := startsF_cons h
    have hpos : 0 < cs.length := by cases cs with
      | nil => exact absurd rfl hc
      | cons c r => simp
    have := insN_le cs
    intro x hx
    rcases List.mem_cons.1 hx with rfl | hx
    · omega
    · have := startsF_lt k' _ _ l h1 x hx; simp at this; omega
theorem u32s_cell (cs : List Nat) : (u32s cs).all LV.isCell = true := by
  rw [List.all_eq_true]
  intro x hx
  obtain ⟨n, _, rfl⟩ := List.mem_map.1 hx
  rfl
theorem i64s_cell (cs : List Nat) : (i64s cs).all LV.isCell = true := by
  rw [List.all_eq_true]
  intro x hx
  obtain ⟨n, _, rfl⟩ := List.mem_map.1 hx
  rfl
theorem own_len {h : Heap} {v : LV} {n : Nat} {cells : List LV} (ho : Own h 1 v n cells) (hp : Heap) : lenE Try.prog 24 v hp = some (.int .i64 (.ofNat n)) := by
  cases ho with
  | nils => simp only [lenE, under24, lenOf?, Option.map_some]
  | row hb hn hc hcells => simp only [lenE, under24, lenOf?, Option.map_some]
theorem own_at {h : Heap} {v : LV} {n : Nat} {l : List Nat} (ho : Own h 1 v n (i64s l)) (i : Nat) (hi : i < l.length) :
    ∃ p, indexAddrOp Try.prog 24 v (.int .i64 (.ofNat i)) = some p ∧ loadAt Try.prog 3 p h = some (.int .i64 (.ofNat l[i])) := by
  have h1 := ho.len
  have hnl : n = l.length := by simpa [i64s] using h1.symm
  generalize hc : i64s l = cells at ho
  cases ho with
  | nils => omega
  | @row b g o _ cap cs _ wlo hb hn hcap hcells =>
    have f1 : Nat.blt i n = true := by rw [blt_eq]; simp; omega
    have hr : readN h b g (o + i * 1) 1 = some [.int .i64 (.ofNat l[i])] := by
      rw [readN_all hb (by omega)]
      have e1 : (cs.drop (o + i * 1)).take 1 = (cells.drop i).take 1 := by
        rw [hcells, List.drop_take, List.drop_drop, List.take_take, Nat.mul_one, Nat.min_eq_left (by omega)]
      rw [e1, ← hc, List.drop_eq_getElem_cons (by simpa [i64s] using hi)]
      simp [i64s]
    refine ⟨.ptr b g (o + i * 1), ?_, ?_⟩
    · simp only [indexAddrOp, asNat?, Option.bind_some, under24, sz3, f1, Nat.beq, Bool.and_self]
    · simp only [loadAt, agg3, hr, Option.bind_some, List.head?]
theorem lnil24 (h : Heap) : lenE Try.prog 24 .nils h = some (.int .i64 0) := by simp only [lenE, under24, lenOf?, Option.map_some]; rfl
theorem under5 : Try.prog.underlying 5 = some (.int .u8) := by kernel_rfl
theorem em4 (b : Bool) : eqMay Try.prog 4 (.bool b) = true := rfl
theorem ei4 (a b : Bool) : eqIn Try.prog 20 4 (.bool a) (.bool b) = some (a == b) := by
  have hu : Try.prog.underlying 4 = some .bool := by kernel_rfl
  simp only [eqIn, hu]
theorem bs22 : buildSliceA Try.prog 22 0 [] = some (.row [] 0 0, fun b => .slice b 0 0 0 (some 0) 1) := by kernel_rfl
theorem starts_body3 (a b : LV) (A B : List Nat) (c : Nat) (ha : codeOf a = some A) (hb : codeOf b = some B) (hc : c < 256) : ∃ r h1, Evc Try.prog ov21 3 [a, b, .int .u8 (.ofNat c)] Heap.empty (r, h1) ∧ r = .bool true := by
  have hla := code_len ha
  have hlb := code_len hb
  by_cases hA : 200 < A.length
  · have f1 : Nat.blt 200 A.length = true := by rw [blt_eq]; simp [hA]
    refine Evc.of rfl Try.func3 rfl rfl ?_
    have chk_ : True := by simp only [hla, hlb, f1, call21_8]
    clear chk_
    repeat (first | refine EvP.seq ?_ | refine EvP.region ?_ | refine OpsP.nil ?_ | refine GuardP.no ?_ | refine DGuardP.no ?_ | refine DrP.nil ?_ | refine CondP.t ?_ | refine CondP.f ?_ | refine EvP.ret ?_ | refine EvP.skip ?_ | refine EvP.exit ?_ | refine EvP.block ?_ | refine EvP.scope ?_  | ((first | refine OpsP.put (v := ?_) (h1 := ?_) ?hd ?he ?_ | refine OpsP.eff (v := ?_) (h1 := ?_) ?he ?_ | refine GuardP.yes (v := ?_) (h1 := ?_) ?he ?_  | (refine DrP.put (d := ?_) (op := ?_) (t := ?_) (p := ?_) (a := ?_) (v := ?_) (h1 := ?_) ?ho ?hd ?he ?_; (case ho => rfl)) | (refine DrP.eff (op := ?_) (t := ?_) (p := ?_) (a := ?_) (v := ?_) (h1 := ?_) ?ho ?he ?_; (case ho => rfl)) | refine DGuardP.yes (v := ?_) (h1 := ?_) ?he ?_); (try case hd => rfl); (case he => intro run; ((try simp only [evOp, evA, val, vals, oval, parts, get_set, get_nil, ofArgs, ofValue, binOpE, arith, ilt, convertE, unOpE, builtinE, callV, List.nil_append, List.append_nil, Option.bind_some, Option.map_some, Nat.reduceEqDiff, reduceIte, Bool.not_true, Bool.not_false, List.getElem?_cons_zero, List.getElem?_cons_succ, List.getElem?_toArray, Array.toList, List.mapM_cons, List.mapM_nil, Option.pure_def, Option.bind_eq_bind, hla, hlb, f1, call21_8]) <;> exact rfl)))  | ((first | refine OpsP.guard (x := ?_) (b := ?_) ?hj ?hx ?hd ?_ | (refine DrP.guard (d := ?_) (op := ?_) (t := ?_) (p := ?_) (a := ?_) (j := ?_) (w := ?_) (x := ?_) (b := ?_) ?ho ?hj ?hx ?hd ?_; (case ho => rfl)) | refine EvP.condB (c := ?_) ?hx ?_); (try case hj => rfl); (case hx => ((try simp only [val, get_set, get_nil, ofArgs, ofValue, Nat.reduceEqDiff, reduceIte, Option.map_some, hla, hlb, f1, call21_8]) <;> exact rfl)); (try case hd => rfl)))
    refine ⟨_, rfl, ?_⟩
    simp only [oneOf, get_set, Nat.reduceEqDiff, reduceIte]
  · have f1 : Nat.blt 200 A.length = false := by rw [blt_eq]; simp; omega
    by_cases hB : 200 < B.length
    · have f2 : Nat.blt 200 B.length = true := by rw [blt_eq]; simp [hB]
      refine Evc.of rfl Try.func3 rfl rfl ?_
      have chk_ : True := by simp only [hla, hlb, f1, f2, call21_8]
      clear chk_
      repeat (first | refine EvP.seq ?_ | refine EvP.region ?_ | refine OpsP.nil ?_ | refine GuardP.no ?_ | refine DGuardP.no ?_ | refine DrP.nil ?_ | refine CondP.t ?_ | refine CondP.f ?_ | refine EvP.ret ?_ | refine EvP.skip ?_ | refine EvP.exit ?_ | refine EvP.block ?_ | refine EvP.scope ?_  | ((first | refine OpsP.put (v := ?_) (h1 := ?_) ?hd ?he ?_ | refine OpsP.eff (v := ?_) (h1 := ?_) ?he ?_ | refine GuardP.yes (v := ?_) (h1 := ?_) ?he ?_  | (refine DrP.put (d := ?_) (op := ?_) (t := ?_) (p := ?_) (a := ?_) (v := ?_) (h1 := ?_) ?ho ?hd ?he ?_; (case ho => rfl)) | (refine DrP.eff (op := ?_) (t := ?_) (p := ?_) (a := ?_) (v := ?_) (h1 := ?_) ?ho ?he ?_; (case ho => rfl)) | refine DGuardP.yes (v := ?_) (h1 := ?_) ?he ?_); (try case hd => rfl); (case he => intro run; ((try simp only [evOp, evA, val, vals, oval, parts, get_set, get_nil, ofArgs, ofValue, binOpE, arith, ilt, convertE, unOpE, builtinE, callV, List.nil_append, List.append_nil, Option.bind_some, Option.map_some, Nat.reduceEqDiff, reduceIte, Bool.not_true, Bool.not_false, List.getElem?_cons_zero, List.getElem?_cons_succ, List.getElem?_toArray, Array.toList, List.mapM_cons, List.mapM_nil, Option.pure_def, Option.bind_eq_bind, hla, hlb, f1, f2, call21_8]) <;> exact rfl)))  | ((first | refine OpsP.guard (x := ?_) (b := ?_) ?hj ?hx ?hd ?_ | (refine DrP.guard (d := ?_) (op := ?_) (t := ?_) (p := ?_) (a := ?_) (j := ?_) (w := ?_) (x := ?_) (b := ?_) ?ho ?hj ?hx ?hd ?_; (case ho => rfl)) | refine EvP.condB (c := ?_) ?hx ?_); (try case hj => rfl); (case hx => ((try simp only [val, get_set, get_nil, ofArgs, ofValue, Nat.reduceEqDiff, reduceIte, Option.map_some, hla, hlb, f1, f2, call21_8]) <;> exact rfl)); (try case hd => rfl)))
      refine ⟨_, rfl, ?_⟩
      simp only [oneOf, get_set, Nat.reduceEqDiff, reduceIte]
    · have f2 : Nat.blt 200 B.length = false := by rw [blt_eq]; simp; omega
      obtain ⟨sl, ok, h1, hput, hnx1, hk1, hbk1, hsp1⟩ := startsGift_own A Heap.empty
      have hc9 := fun run => (call21_9 run (codeV_of ha Heap.empty)).trans (congrArg some hput)
      have q00 : ieq 0 0 = true := rfl
      refine Evc.of rfl Try.func3 rfl rfl ?_
      cases hsA : startsN A with
      | none =>
        rw [hsA] at hsp1
        obtain ⟨rfl, rfl⟩ := hsp1
        have chk_ : True := by simp only [hla, hlb, f1, f2, hc9, lnil24, q00, call21_8]
        clear chk_
        repeat (first | refine EvP.seq ?_ | refine EvP.region ?_ | refine OpsP.nil ?_ | refine GuardP.no ?_ | refine DGuardP.no ?_ | refine DrP.nil ?_ | refine CondP.t ?_ | refine CondP.f ?_ | refine EvP.ret ?_ | refine EvP.skip ?_ | refine EvP.exit ?_ | refine EvP.block ?_ | refine EvP.scope ?_  | ((first | refine OpsP.put (v := ?_) (h1 := ?_) ?hd ?he ?_ | refine OpsP.eff (v := ?_) (h1 := ?_) ?he ?_ | refine GuardP.yes (v := ?_) (h1 := ?_) ?he ?_  | (refine DrP.put (d := ?_) (op := ?_) (t := ?_) (p := ?_) (a := ?_) (v := ?_) (h1 := ?_) ?ho ?hd ?he ?_; (case ho => rfl)) | (refine DrP.eff (op := ?_) (t := ?_) (p := ?_) (a := ?_) (v := ?_) (h1 := ?_) ?ho ?he ?_; (case ho => rfl)) | refine DGuardP.yes (v := ?_) (h1 := ?_) ?he ?_); (try case hd => rfl); (case he => intro run; ((try simp only [evOp, evA, val, vals, oval, parts, get_set, get_nil, ofArgs, ofValue, binOpE, arith, ilt, convertE, unOpE, builtinE, callV, List.nil_append, List.append_nil, Option.bind_some, Option.map_some, Nat.reduceEqDiff, reduceIte, Bool.not_true, Bool.not_false, List.getElem?_cons_zero, List.getElem?_cons_succ, List.getElem?_toArray, Array.toList, List.mapM_cons, List.mapM_nil, Option.pure_def, Option.bind_eq_bind, hla, hlb, f1, f2, hc9, lnil24, q00, call21_8]) <;> exact rfl)))  | ((first | refine OpsP.guard (x := ?_) (b := ?_) ?hj ?hx ?hd ?_ | (refine DrP.guard (d := ?_) (op := ?_) (t := ?_) (p := ?_) (a := ?_) (j := ?_) (w := ?_) (x := ?_) (b := ?_) ?ho ?hj ?hx ?hd ?_; (case ho => rfl)) | refine EvP.condB (c := ?_) ?hx ?_); (try case hj => rfl); (case hx => ((try simp only [val, get_set, get_nil, ofArgs, ofValue, Nat.reduceEqDiff, reduceIte, Option.map_some, hla, hlb, f1, f2, hc9, lnil24, q00, call21_8]) <;> exact rfl)); (try case hd => rfl)))
        refine ⟨_, rfl, ?_⟩
        simp only [oneOf, get_set, Nat.reduceEqDiff, reduceIte]
      | some l =>
        rw [hsA] at hsp1
        obtain ⟨rfl, ho1⟩ := hsp1
        have hll := startsN_len hsA
        have hl1 := own_len ho1
        have w1 : wrap .i64 (Int.ofNat c) = .ofNat c := wrap_nat .i64 c (by simp only [half]; omega)
        have w2 : wrap .i64 (Int.ofNat A.length + 1) = .ofNat (A.length + 1) := wrap_nat .i64 (A.length + 1) (by simp only [half]; omega)
        have w3 : (Int.ofNat c).tmod (Int.ofNat (A.length + 1)) = .ofNat (c % (A.length + 1)) := rfl
        have w4 : ieq (Int.ofNat (A.length + 1)) 0 = false := rfl
        have hK : c % (A.length + 1) ≤ A.length := by have := Nat.mod_lt c (show A.length + 1 > 0 by omega); omega
        generalize c % (A.length + 1) = K at *
        have bfalse : (false = true) = False := by simp
        have chk_ : True := by simp only [hla, hlb, show ilt 200 (Int.ofNat A.length) = false from f1, show ilt 200 (Int.ofNat B.length) = false from f2, hc9, hl1, under5, under3, w1, w2, w3, w4, bfalse]
        clear chk_
        repeat (first | refine EvP.seq ?_ | refine EvP.region ?_ | refine OpsP.nil ?_ | refine GuardP.no ?_ | refine DGuardP.no ?_ | refine DrP.nil ?_ | refine CondP.t ?_ | refine CondP.f ?_ | refine EvP.ret ?_ | refine EvP.skip ?_ | refine EvP.exit ?_ | refine EvP.block ?_ | refine EvP.scope ?_  | ((first | refine OpsP.put (v := ?_) (h1 := ?_) ?hd ?he ?_ | refine OpsP.eff (v := ?_) (h1 := ?_) ?he ?_ | refine GuardP.yes (v := ?_) (h1 := ?_) ?he ?_  | (refine DrP.put (d := ?_) (op := ?_) (t := ?_) (p := ?_) (a := ?_) (v := ?_) (h1 := ?_) ?ho ?hd ?he ?_; (case ho => rfl)) | (refine DrP.eff (op := ?_) (t := ?_) (p := ?_) (a := ?_) (v := ?_) (h1 := ?_) ?ho ?he ?_; (case ho => rfl)) | refine DGuardP.yes (v := ?_) (h1 := ?_) ?he ?_); (try case hd => rfl); (case he => intro run; ((try simp only [evOp, evA, val, vals, oval, parts, get_set, get_nil, ofArgs, ofValue, binOpE, arith, convertE, unOpE, builtinE, callV, List.nil_append, List.append_nil, Option.bind_some, Option.map_some, Nat.reduceEqDiff, reduceIte, Bool.not_true, Bool.not_false, List.getElem?_cons_zero, List.getElem?_cons_succ, List.getElem?_toArray, Array.toList, List.mapM_cons, List.mapM_nil, Option.pure_def, Option.bind_eq_bind, hla, hlb, show ilt 200 (Int.ofNat A.length) = false from f1, show ilt 200 (Int.ofNat B.length) = false from f2, hc9, hl1, under5, under3, w1, w2, w3, w4, bfalse]) <;> exact rfl)))  | ((first | refine OpsP.guard (x := ?_) (b := ?_) ?hj ?hx ?hd ?_ | (refine DrP.guard (d := ?_) (op := ?_) (t := ?_) (p := ?_) (a := ?_) (j := ?_) (w := ?_) (x := ?_) (b := ?_) ?ho ?hj ?hx ?hd ?_; (case ho => rfl)) | refine EvP.condB (c := ?_) ?hx ?_); (try case hj => rfl); (case hx => ((try simp only [val, get_set, get_nil, ofArgs, ofValue, Nat.reduceEqDiff, reduceIte, Option.map_some, hla, hlb, show ilt 200 (Int.ofNat A.length) = false from f1, show ilt 200 (Int.ofNat B.length) = false from f2, hc9, hl1, under5, under3, w1, w2, w3, w4, bfalse]) <;> exact rfl)); (try case hd => rfl)))
        refine EvP.loop (fun m tm h => h = h1 ∧ tm.get 0 = a ∧ tm.get 1 = b ∧ tm.get 51 = sl ∧ tm.get 52 = .int .i64 (.ofNat l.length) ∧ tm.get 7 = sl ∧ tm.get 11 = .int .i64 (.ofNat K) ∧
            ∃ j k nx, m = l.length - j ∧ j ≤ l.length ∧ tm.get 53 = .int .i64 (.ofNat j) ∧ tm.get 9 = .int .i64 (.ofNat nx) ∧ nx ≤ A.length ∧ tm.get 10 = .bool (decide (K ∈ l.take j)) ∧ startsF k nx (A.drop nx) = some (l.drop j)) l.length ?_ ?_
        · refine ⟨rfl, ?_, ?_, ?_, ?_, ?_, ?_, 0, A.length, 0, rfl, Nat.zero_le _, ?_, ?_, Nat.zero_le _, ?_, hsA⟩
          · exact (by (try simp only [val, get_set, get_nil, ofArgs, ofValue, Nat.reduceEqDiff, reduceIte, Option.map_some]) <;> exact rfl)
          · exact (by (try simp only [val, get_set, get_nil, ofArgs, ofValue, Nat.reduceEqDiff, reduceIte, Option.map_some]) <;> exact rfl)
          · exact (by (try simp only [val, get_set, get_nil, ofArgs, ofValue, Nat.reduceEqDiff, reduceIte, Option.map_some]) <;> exact rfl)
          · exact (by (try simp only [val, get_set, get_nil, ofArgs, ofValue, Nat.reduceEqDiff, reduceIte, Option.map_some]) <;> exact rfl)
          · exact (by (try simp only [val, get_set, get_nil, ofArgs, ofValue, Nat.reduceEqDiff, reduceIte, Option.map_some]) <;> exact rfl)
          · exact (by (try simp only [val, get_set, get_nil, ofArgs, ofValue, Nat.reduceEqDiff, reduceIte, Option.map_some]) <;> exact rfl)
          · exact (by (try simp only [val, get_set, get_nil, ofArgs, ofValue, Nat.reduceEqDiff, reduceIte, Option.map_some]) <;> exact rfl)
          · exact (by (try simp only [val, get_set, get_nil, ofArgs, ofValue, Nat.reduceEqDiff, reduceIte, Option.map_some]) <;> exact rfl)
          · exact (by (try simp only [val, get_set, get_nil, ofArgs, ofValue, Nat.reduceEqDiff, reduceIte, Option.map_some]) <;> exact rfl)
        · rintro m tm h ⟨rfl, g0, g1, g51, g52, g7, g11, j, k, nx, rfl, hj, g53, g9, hnx, g10, hst⟩
          by_cases hlt : j < l.length
          · have f3 : Nat.blt j l.length = true := by rw [blt_eq]; simp [hlt]
            obtain ⟨p, hp, hlp⟩ := own_at ho1 j hlt
            have hd : l.drop j = l[j] :: l.drop (j + 1) := List.drop_eq_getElem_cons hlt
            have htk : l.take (j + 1) = l.take j ++ [l[j]] := by rw [List.take_add_one, List.getElem?_eq_getElem hlt]; rfl
            rw [hd] at hst
            obtain ⟨e, n, k', rfl, hn, hne, hst'⟩ := startsF_cons hst
            rw [e] at hlp htk
            rw [List.drop_drop] at hst'
            have hle := insN_le (A.drop nx)
            rw [hn, List.length_drop] at hle
            have hcl := fun run h => call21_10 run h ha (.ofNat nx)
            have hln : longN A (.ofNat nx) = n + 1 := hn
            rw [hln] at hcl
            have e1 : Nat.beq nx nx = true := by rw [beq_eq]; simp
            have e2 : Nat.blt (n + 1) 1 = false := rfl
            have e3 : wrap .i64 (Int.ofNat A.length - Int.ofNat nx) = .ofNat (A.length - nx) := by rw [show Int.ofNat A.length - Int.ofNat nx = Int.ofNat (A.length - nx) from nat_sub (b := nx) (by omega), wrap_nat .i64 _ (by simp only [half]; omega)]
            have e4 : Nat.blt (A.length - nx) (n + 1) = false := by rw [blt_eq]; simp; omega
            have e5 : wrap .i64 (Int.ofNat nx + Int.ofNat (n + 1)) = .ofNat (nx + (n + 1)) := by rw [show Int.ofNat nx + Int.ofNat (n + 1) = Int.ofNat (nx + (n + 1)) from rfl, wrap_nat .i64 _ (by simp only [half]; omega)]
            have hin : decide (K ∈ l.take (j + 1)) = (decide (K ∈ l.take j) || Nat.beq nx K) := by
              rw [htk, beq_eq]
              by_cases hm : K ∈ l.take j
              · simp [hm]
              · by_cases hq : K = nx
                · subst hq; simp
                · have : ¬ (nx = K) := fun e => hq e.symm
                  simp [hm, hq, this]
            generalize decide (K ∈ l.take j) = ib at *
            cases ib with
            | true =>
              have chk_ : True := by simp only [hla, g0, g1, g51, g52, g7, g11, g53, g9, g10, f3, hp, hlp, hcl, e1, e2, e3, e4, e5, ieq]
              clear chk_
              repeat (first | refine EvP.seq ?_ | refine EvP.region ?_ | refine OpsP.nil ?_ | refine GuardP.no ?_ | refine DGuardP.no ?_ | refine DrP.nil ?_ | refine CondP.t ?_ | refine CondP.f ?_ | refine EvP.ret ?_ | refine EvP.skip ?_ | refine EvP.exit ?_ | refine EvP.block ?_ | refine EvP.scope ?_  | ((first | refine OpsP.put (v := ?_) (h1 := ?_) ?hd ?he ?_ | refine OpsP.eff (v := ?_) (h1 := ?_) ?he ?_ | refine GuardP.yes (v := ?_) (h1 := ?_) ?he ?_  | (refine DrP.put (d := ?_) (op := ?_) (t := ?_) (p := ?_) (a := ?_) (v := ?_) (h1 := ?_) ?ho ?hd ?he ?_; (case ho => rfl)) | (refine DrP.eff (op := ?_) (t := ?_) (p := ?_) (a := ?_) (v := ?_) (h1 := ?_) ?ho ?he ?_; (case ho => rfl)) | refine DGuardP.yes (v := ?_) (h1 := ?_) ?he ?_); (try case hd => rfl); (case he => intro run; ((try simp only [evOp, evA, val, vals, oval, parts, get_set, get_nil, ofArgs, ofValue, binOpE, arith, ilt, convertE, unOpE, builtinE, callV, List.nil_append, List.append_nil, Option.bind_some, Option.map_some, Nat.reduceEqDiff, reduceIte, Bool.not_true, Bool.not_false, List.getElem?_cons_zero, List.getElem?_cons_succ, List.getElem?_toArray, Array.toList, List.mapM_cons, List.mapM_nil, Option.pure_def, Option.bind_eq_bind, hla, g0, g1, g51, g52, g7, g11, g53, g9, g10, f3, hp, hlp, hcl, e1, e2, e3, e4, e5, ieq]) <;> exact rfl)))  | ((first | refine OpsP.guard (x := ?_) (b := ?_) ?hj ?hx ?hd ?_ | (refine DrP.guard (d := ?_) (op := ?_) (t := ?_) (p := ?_) (a := ?_) (j := ?_) (w := ?_) (x := ?_) (b := ?_) ?ho ?hj ?hx ?hd ?_; (case ho => rfl)) | refine EvP.condB (c := ?_) ?hx ?_); (try case hj => rfl); (case hx => ((try simp only [val, get_set, get_nil, ofArgs, ofValue, Nat.reduceEqDiff, reduceIte, Option.map_some, hla, g0, g1, g51, g52, g7, g11, g53, g9, g10, f3, hp, hlp, hcl, e1, e2, e3, e4, e5, ieq]) <;> exact rfl)); (try case hd => rfl)))
              refine ⟨l.length - (j + 1), by omega, rfl, ?_, ?_, ?_, ?_, ?_, ?_, j + 1, k', nx + (n + 1), rfl, by omega, ?_, ?_, by omega, ?_, hst'⟩
              · exact (by (try simp only [val, get_set, get_nil, ofArgs, ofValue, Nat.reduceEqDiff, reduceIte, Option.map_some, g0]) <;> exact rfl)
              · exact (by (try simp only [val, get_set, get_nil, ofArgs, ofValue, Nat.reduceEqDiff, reduceIte, Option.map_some, g1]) <;> exact rfl)
              · exact (by (try simp only [val, get_set, get_nil, ofArgs, ofValue, Nat.reduceEqDiff, reduceIte, Option.map_some, g51]) <;> exact rfl)
              · exact (by (try simp only [val, get_set, get_nil, ofArgs, ofValue, Nat.reduceEqDiff, reduceIte, Option.map_some, g52]) <;> exact rfl)
              · exact (by (try simp only [val, get_set, get_nil, ofArgs, ofValue, Nat.reduceEqDiff, reduceIte, Option.map_some, g7]) <;> exact rfl)
              · exact (by (try simp only [val, get_set, get_nil, ofArgs, ofValue, Nat.reduceEqDiff, reduceIte, Option.map_some, g11]) <;> exact rfl)
              · simp only [get_set, Nat.reduceEqDiff, reduceIte]
                rw [show Int.ofNat j + 1 = Int.ofNat (j + 1) from rfl, wrap_nat .i64 (j + 1) (by simp only [half]; omega)]
              · exact (by (try simp only [val, get_set, get_nil, ofArgs, ofValue, Nat.reduceEqDiff, reduceIte, Option.map_some]) <;> exact rfl)
              · rw [hin]; exact (by (try simp only [val, get_set, get_nil, ofArgs, ofValue, Nat.reduceEqDiff, reduceIte, Option.map_some]) <;> exact rfl)
            | false =>
              have chk_ : True := by simp only [hla, g0, g1, g51, g52, g7, g11, g53, g9, g10, f3, hp, hlp, hcl, e1, e2, e3, e4, e5, ieq]
              clear chk_
              repeat (first | refine EvP.seq ?_ | refine EvP.region ?_ | refine OpsP.nil ?_ | refine GuardP.no ?_ | refine DGuardP.no ?_ | refine DrP.nil ?_ | refine CondP.t ?_ | refine CondP.f ?_ | refine EvP.ret ?_ | refine EvP.skip ?_ | refine EvP.exit ?_ | refine EvP.block ?_ | refine EvP.scope ?_  | ((first | refine OpsP.put (v := ?_) (h1 := ?_) ?hd ?he ?_ | refine OpsP.eff (v := ?_) (h1 := ?_) ?he ?_ | refine GuardP.yes (v := ?_) (h1 := ?_) ?he ?_  | (refine DrP.put (d := ?_) (op := ?_) (t := ?_) (p := ?_) (a := ?_) (v := ?_) (h1 := ?_) ?ho ?hd ?he ?_; (case ho => rfl)) | (refine DrP.eff (op := ?_) (t := ?_) (p := ?_) (a := ?_) (v := ?_) (h1 := ?_) ?ho ?he ?_; (case ho => rfl)) | refine DGuardP.yes (v := ?_) (h1 := ?_) ?he ?_); (try case hd => rfl); (case he => intro run; ((try simp only [evOp, evA, val, vals, oval, parts, get_set, get_nil, ofArgs, ofValue, binOpE, arith, ilt, convertE, unOpE, builtinE, callV, List.nil_append, List.append_nil, Option.bind_some, Option.map_some, Nat.reduceEqDiff, reduceIte, Bool.not_true, Bool.not_false, List.getElem?_cons_zero, List.getElem?_cons_succ, List.getElem?_toArray, Array.toList, List.mapM_cons, List.mapM_nil, Option.pure_def, Option.bind_eq_bind, hla, g0, g1, g51, g52, g7, g11, g53, g9, g10, f3, hp, hlp, hcl, e1, e2, e3, e4, e5, ieq]) <;> exact rfl)))  | ((first | refine OpsP.guard (x := ?_) (b := ?_) ?hj ?hx ?hd ?_ | (refine DrP.guard (d := ?_) (op := ?_) (t := ?_) (p := ?_) (a := ?_) (j := ?_) (w := ?_) (x := ?_) (b := ?_) ?ho ?hj ?hx ?hd ?_; (case ho => rfl)) | refine EvP.condB (c := ?_) ?hx ?_); (try case hj => rfl); (case hx => ((try simp only [val, get_set, get_nil, ofArgs, ofValue, Nat.reduceEqDiff, reduceIte, Option.map_some, hla, g0, g1, g51, g52, g7, g11, g53, g9, g10, f3, hp, hlp, hcl, e1, e2, e3, e4, e5, ieq]) <;> exact rfl)); (try case hd => rfl)))
              refine ⟨l.length - (j + 1), by omega, rfl, ?_, ?_, ?_, ?_, ?_, ?_, j + 1, k', nx + (n + 1), rfl, by omega, ?_, ?_, by omega, ?_, hst'⟩
              · exact (by (try simp only [val, get_set, get_nil, ofArgs, ofValue, Nat.reduceEqDiff, reduceIte, Option.map_some, g0]) <;> exact rfl)
              · exact (by (try simp only [val, get_set, get_nil, ofArgs, ofValue, Nat.reduceEqDiff, reduceIte, Option.map_some, g1]) <;> exact rfl)
              · exact (by (try simp only [val, get_set, get_nil, ofArgs, ofValue, Nat.reduceEqDiff, reduceIte, Option.map_some, g51]) <;> exact rfl)
              · exact (by (try simp only [val, get_set, get_nil, ofArgs, ofValue, Nat.reduceEqDiff, reduceIte, Option.map_some, g52]) <;> exact rfl)
              · exact (by (try simp only [val, get_set, get_nil, ofArgs, ofValue, Nat.reduceEqDiff, reduceIte, Option.map_some, g7]) <;> exact rfl)
              · exact (by (try simp only [val, get_set, get_nil, ofArgs, ofValue, Nat.reduceEqDiff, reduceIte, Option.map_some, g11]) <;> exact rfl)
              · simp only [get_set, Nat.reduceEqDiff, reduceIte]
                rw [show Int.ofNat j + 1 = Int.ofNat (j + 1) from rfl, wrap_nat .i64 (j + 1) (by simp only [half]; omega)]
              · exact (by (try simp only [val, get_set, get_nil, ofArgs, ofValue, Nat.reduceEqDiff, reduceIte, Option.map_some]) <;> exact rfl)
              · rw [hin]; exact (by (try simp only [val, get_set, get_nil, ofArgs, ofValue, Nat.reduceEqDiff, reduceIte, Option.map_some]) <;> exact rfl)
          · have f3 : Nat.blt l.length l.length = false := by rw [blt_eq]; simp
            have : j = l.length := by omega
            subst this
            rw [List.drop_length] at hst
            have hnil := startsF_nil hst
            have : nx = A.length := by have := congrArg List.length hnil; simp at this; omega
            subst this
            rw [List.take_length] at g10
            have e1 : Nat.beq A.length A.length = true := by rw [beq_eq]; simp
            obtain ⟨v2, hv2, hs2⟩ := code_take ha K hK
            obtain ⟨sl2, ok2, h2, hput2, hnx2, hk2, hbk2, hsp2⟩ := startsGift_own (A.take K) h
            have hc92 := fun run => (call21_9 run (codeV_of hv2 h)).trans (congrArg some hput2)
            have hok2 : ok2 = (decide (K ∈ l) || Nat.beq K A.length) := by
              have h3 := startsN_take hsA K hK
              have h4 : ok2 = (startsN (A.take K)).isSome := by
                cases hs : startsN (A.take K) with
                | none => rw [hs] at hsp2; exact hsp2.1
                | some _ => rw [hs] at hsp2; exact hsp2.1
              rw [h4, h3, beq_eq]
            clear hsp2
            obtain ⟨sl3, ok3, h3, hput3, hnx3, hk3, hbk3, hsp3⟩ := startsGift_own B h2
            have hc93 := fun run => (call21_9 run (codeV_of hb h2)).trans (congrArg some hput3)
            -- the joined code
            have ho4 : Own (h3.new (.row [] 0 0)).2 1 (.slice h3.next 0 0 0 (some 0) 1) 0 [] := Own.fresh [] rfl (some 0) (fun c e => by cases e; rfl)
            obtain ⟨v1, h5, ha1, ho5, hn5, hk5, hb5⟩ := ho4.append appT22 (code_lenOf ha) (code_view ha _) (by simp [u32s]) (u32s_cell A) (by show _ ≤ 70368744177664; omega) (by show _ ≤ 70368744177664; omega) (fun b e => by cases e; simp [hnext_new])
            obtain ⟨v3, h6, ha2, ho6, hn6, hk6, hb6⟩ := ho5.append appT22 (code_lenOf hb) (code_view hb _) (by simp [u32s]) (u32s_cell B) (by show _ ≤ 70368744177664; omega) (by show _ ≤ 70368744177664; omega) (fun b e => (hb5 b e).1)
            have hcat : [] ++ u32s A ++ u32s B = u32s (A ++ B) := by simp [u32s]
            rw [hcat] at ho6
            obtain ⟨sl4, ok4, h7, hput4, hnx4, hk4, hbk4, hsp4⟩ := startsGift_own (A ++ B) h6
            have hc94 := fun run => (call21_9 run (ho6.code (by omega))).trans (congrArg some hput4)
            have happ := startsN_app hsA B
            have hok4 : ok4 = ok3 := by
              rw [happ] at hsp4
              cases hs : startsN B with
              | none => rw [hs] at hsp3 hsp4; exact hsp4.1.trans hsp3.1.symm
              | some _ => rw [hs] at hsp3 hsp4; exact hsp4.1.trans hsp3.1.symm
            subst hok4
            have bb : ∀ x : Bool, (x == x) = true := fun x => by cases x <;> rfl
            -- what stays
            have hkk : ∀ b, b < h3.next → h7.get b = h3.get b := fun b hb => by
              have q1 : (h3.new (.row [] 0 0)).2.next = h3.next + 1 := rfl
              rw [hk4 b (by omega), hk6 b (by omega) (fun e => by
                rcases (hb5 b e).2 with e | e
                · have : h3.next = b := by cases e; rfl
                  omega
                · omega), hk5 b (by omega) (fun e => by cases e; omega), hget_new, if_neg (by omega)]
            have hn37 : h3.next ≤ h7.next := by have q1 : (h3.new (.row [] 0 0)).2.next = h3.next + 1 := rfl; omega
            have hoA : Own h7 1 sl l.length (i64s l) := ho1.keep fun b e => by
              have := hbk1 b e
              rw [hkk b (by omega), hk3 b (by omega), hk2 b (by omega)]
            generalize hib : decide (K ∈ l) = ib at *
            cases hsB : startsN B with
            | none =>
              rw [hsB] at hsp3
              obtain ⟨rfl, rfl⟩ := hsp3
              cases ib with
              | true =>
                have : ok2 = true := hok2
                subst this
                have chk_ : True := by simp only [hla, g0, g1, g51, g52, g7, g11, g53, g9, g10, f3, e1, ieq, hs2, hc92, hc93, hc94, bs22, putNew_eq, ha1, ha2, em4, ei4, bb, call21_8]
                clear chk_
                repeat (first | refine EvP.seq ?_ | refine EvP.region ?_ | refine OpsP.nil ?_ | refine GuardP.no ?_ | refine DGuardP.no ?_ | refine DrP.nil ?_ | refine CondP.t ?_ | refine CondP.f ?_ | refine EvP.ret ?_ | refine EvP.skip ?_ | refine EvP.exit ?_ | refine EvP.block ?_ | refine EvP.scope ?_  | ((first | refine OpsP.put (v := ?_) (h1 := ?_) ?hd ?he ?_ | refine OpsP.eff (v := ?_) (h1 := ?_) ?he ?_ | refine GuardP.yes (v := ?_) (h1 := ?_) ?he ?_  | (refine DrP.put (d := ?_) (op := ?_) (t := ?_) (p := ?_) (a := ?_) (v := ?_) (h1 := ?_) ?ho ?hd ?he ?_; (case ho => rfl)) | (refine DrP.eff (op := ?_) (t := ?_) (p := ?_) (a := ?_) (v := ?_) (h1 := ?_) ?ho ?he ?_; (case ho => rfl)) | refine DGuardP.yes (v := ?_) (h1 := ?_) ?he ?_); (try case hd => rfl); (case he => intro run; ((try simp only [evOp, evA, val, vals, oval, parts, get_set, get_nil, ofArgs, ofValue, binOpE, arith, ilt, convertE, unOpE, builtinE, callV, List.nil_append, List.append_nil, Option.bind_some, Option.map_some, Nat.reduceEqDiff, reduceIte, Bool.not_true, Bool.not_false, List.getElem?_cons_zero, List.getElem?_cons_succ, List.getElem?_toArray, Array.toList, List.mapM_cons, List.mapM_nil, Option.pure_def, Option.bind_eq_bind, hla, g0, g1, g51, g52, g7, g11, g53, g9, g10, f3, e1, ieq, hs2, hc92, hc93, hc94, bs22, putNew_eq, ha1, ha2, em4, ei4, bb, call21_8]) <;> exact rfl)))  | ((first | refine OpsP.guard (x := ?_) (b := ?_) ?hj ?hx ?hd ?_ | (refine DrP.guard (d := ?_) (op := ?_) (t := ?_) (p := ?_) (a := ?_) (j := ?_) (w := ?_) (x := ?_) (b := ?_) ?ho ?hj ?hx ?hd ?_; (case ho => rfl)) | refine EvP.condB (c := ?_) ?hx ?_); (try case hj => rfl); (case hx => ((try simp only [val, get_set, get_nil, ofArgs, ofValue, Nat.reduceEqDiff, reduceIte, Option.map_some, hla, g0, g1, g51, g52, g7, g11, g53, g9, g10, f3, e1, ieq, hs2, hc92, hc93, hc94, bs22, putNew_eq, ha1, ha2, em4, ei4, bb, call21_8]) <;> exact rfl)); (try case hd => rfl)))
                refine ⟨_, rfl, ?_⟩
                simp only [oneOf, get_set, Nat.reduceEqDiff, reduceIte]
              | false =>
                have : ok2 = Nat.beq K A.length := hok2
                subst this
                have chk_ : True := by simp only [hla, g0, g1, g51, g52, g7, g11, g53, g9, g10, f3, e1, ieq, hs2, hc92, hc93, hc94, bs22, putNew_eq, ha1, ha2, em4, ei4, bb, call21_8]
                clear chk_
                repeat (first | refine EvP.seq ?_ | refine EvP.region ?_ | refine OpsP.nil ?_ | refine GuardP.no ?_ | refine DGuardP.no ?_ | refine DrP.nil ?_ | refine CondP.t ?_ | refine CondP.f ?_ | refine EvP.ret ?_ | refine EvP.skip ?_ | refine EvP.exit ?_ | refine EvP.block ?_ | refine EvP.scope ?_  | ((first | refine OpsP.put (v := ?_) (h1 := ?_) ?hd ?he ?_ | refine OpsP.eff (v := ?_) (h1 := ?_) ?he ?_ | refine GuardP.yes (v := ?_) (h1 := ?_) ?he ?_  | (refine DrP.put (d := ?_) (op := ?_) (t := ?_) (p := ?_) (a := ?_) (v := ?_) (h1 := ?_) ?ho ?hd ?he ?_; (case ho => rfl)) | (refine DrP.eff (op := ?_) (t := ?_) (p := ?_) (a := ?_) (v := ?_) (h1 := ?_) ?ho ?he ?_; (case ho => rfl)) | refine DGuardP.yes (v := ?_) (h1 := ?_) ?he ?_); (try case hd => rfl); (case he => intro run; ((try simp only [evOp, evA, val, vals, oval, parts, get_set, get_nil, ofArgs, ofValue, binOpE, arith, ilt, convertE, unOpE, builtinE, callV, List.nil_append, List.append_nil, Option.bind_some, Option.map_some, Nat.reduceEqDiff, reduceIte, Bool.not_true, Bool.not_false, List.getElem?_cons_zero, List.getElem?_cons_succ, List.getElem?_toArray, Array.toList, List.mapM_cons, List.mapM_nil, Option.pure_def, Option.bind_eq_bind, hla, g0, g1, g51, g52, g7, g11, g53, g9, g10, f3, e1, ieq, hs2, hc92, hc93, hc94, bs22, putNew_eq, ha1, ha2, em4, ei4, bb, call21_8]) <;> exact rfl)))  | ((first | refine OpsP.guard (x := ?_) (b := ?_) ?hj ?hx ?hd ?_ | (refine DrP.guard (d := ?_) (op := ?_) (t := ?_) (p := ?_) (a := ?_) (j := ?_) (w := ?_) (x := ?_) (b := ?_) ?ho ?hj ?hx ?hd ?_; (case ho => rfl)) | refine EvP.condB (c := ?_) ?hx ?_); (try case hj => rfl); (case hx => ((try simp only [val, get_set, get_nil, ofArgs, ofValue, Nat.reduceEqDiff, reduceIte, Option.map_some, hla, g0, g1, g51, g52, g7, g11, g53, g9, g10, f3, e1, ieq, hs2, hc92, hc93, hc94, bs22, putNew_eq, ha1, ha2, em4, ei4, bb, call21_8]) <;> exact rfl)); (try case hd => rfl)))
                refine ⟨_, rfl, ?_⟩
                simp only [oneOf, get_set, Nat.reduceEqDiff, reduceIte]
            | some y =>
              rw [hsB] at hsp3
              rw [happ, hsB] at hsp4
              obtain ⟨rfl, ho3⟩ := hsp3
              obtain ⟨-, ho4'⟩ := hsp4
              have hyl := startsN_len hsB
              have hylt := startsF_lt _ _ _ _ hsB
              have ho3' : Own h7 1 sl3 y.length (i64s y) := ho3.keep fun b e => hkk b (hbk3 b e).2
              have hl3 := own_len ho3'
              cases ib with
              | true =>
                have : ok2 = true := hok2
                subst this
                have chk_ : True := by simp only [hla, g0, g1, g51, g52, g7, g11, g53, g9, g10, f3, e1, ieq, hs2, hc92, hc93, hc94, bs22, putNew_eq, ha1, ha2, em4, ei4, bb, call21_8, hl3]
                clear chk_
                repeat (first | refine EvP.seq ?_ | refine EvP.region ?_ | refine OpsP.nil ?_ | refine GuardP.no ?_ | refine DGuardP.no ?_ | refine DrP.nil ?_ | refine CondP.t ?_ | refine CondP.f ?_ | refine EvP.ret ?_ | refine EvP.skip ?_ | refine EvP.exit ?_ | refine EvP.block ?_ | refine EvP.scope ?_  | ((first | refine OpsP.put (v := ?_) (h1 := ?_) ?hd ?he ?_ | refine OpsP.eff (v := ?_) (h1 := ?_) ?he ?_ | refine GuardP.yes (v := ?_) (h1 := ?_) ?he ?_  | (refine DrP.put (d := ?_) (op := ?_) (t := ?_) (p := ?_) (a := ?_) (v := ?_) (h1 := ?_) ?ho ?hd ?he ?_; (case ho => rfl)) | (refine DrP.eff (op := ?_) (t := ?_) (p := ?_) (a := ?_) (v := ?_) (h1 := ?_) ?ho ?he ?_; (case ho => rfl)) | refine DGuardP.yes (v := ?_) (h1 := ?_) ?he ?_); (try case hd => rfl); (case he => intro run; ((try simp only [evOp, evA, val, vals, oval, parts, get_set, get_nil, ofArgs, ofValue, binOpE, arith, ilt, convertE, unOpE, builtinE, callV, List.nil_append, List.append_nil, Option.bind_some, Option.map_some, Nat.reduceEqDiff, reduceIte, Bool.not_true, Bool.not_false, List.getElem?_cons_zero, List.getElem?_cons_succ, List.getElem?_toArray, Array.toList, List.mapM_cons, List.mapM_nil, Option.pure_def, Option.bind_eq_bind, hla, g0, g1, g51, g52, g7, g11, g53, g9, g10, f3, e1, ieq, hs2, hc92, hc93, hc94, bs22, putNew_eq, ha1, ha2, em4, ei4, bb, call21_8, hl3]) <;> exact rfl)))  | ((first | refine OpsP.guard (x := ?_) (b := ?_) ?hj ?hx ?hd ?_ | (refine DrP.guard (d := ?_) (op := ?_) (t := ?_) (p := ?_) (a := ?_) (j := ?_) (w := ?_) (x := ?_) (b := ?_) ?ho ?hj ?hx ?hd ?_; (case ho => rfl)) | refine EvP.condB (c := ?_) ?hx ?_); (try case hj => rfl); (case hx => ((try simp only [val, get_set, get_nil, ofArgs, ofValue, Nat.reduceEqDiff, reduceIte, Option.map_some, hla, g0, g1, g51, g52, g7, g11, g53, g9, g10, f3, e1, ieq, hs2, hc92, hc93, hc94, bs22, putNew_eq, ha1, ha2, em4, ei4, bb, call21_8, hl3]) <;> exact rfl)); (try case hd => rfl)))
                refine EvP.loop (fun m tm h => tm.get 125 = sl3 ∧ tm.get 126 = .int .i64 (.ofNat y.length) ∧ tm.get 19 = sl4 ∧ tm.get 0 = a ∧ ∃ j v, m = y.length - j ∧ j ≤ y.length ∧ tm.get 127 = .int .i64 (.ofNat j) ∧ tm.get 7 = v ∧
                    Own h 1 v (l.length + j) (i64s (l ++ (y.take j).map (· + A.length))) ∧ Own h 1 sl3 y.length (i64s y) ∧ Own h 1 sl4 (l ++ y.map (· + A.length)).length (i64s (l ++ y.map (· + A.length))) ∧
                    (∀ b, v.blk = some b → b < h.next ∧ sl3.blk ≠ some b ∧ sl4.blk ≠ some b) ∧ (∀ b, sl3.blk = some b → b < h.next) ∧ (∀ b, sl4.blk = some b → b < h.next)) y.length ?_ ?_
                · refine ⟨?_, ?_, ?_, ?_, 0, sl, rfl, Nat.zero_le _, ?_, ?_, ?_, ho3', ho4', ?_, ?_, ?_⟩
                  · exact (by (try simp only [val, get_set, get_nil, ofArgs, ofValue, Nat.reduceEqDiff, reduceIte, Option.map_some]) <;> exact rfl)
                  · exact (by (try simp only [val, get_set, get_nil, ofArgs, ofValue, Nat.reduceEqDiff, reduceIte, Option.map_some]) <;> exact rfl)
                  · exact (by (try simp only [val, get_set, get_nil, ofArgs, ofValue, Nat.reduceEqDiff, reduceIte, Option.map_some]) <;> exact rfl)
                  · exact (by (try simp only [val, get_set, get_nil, ofArgs, ofValue, Nat.reduceEqDiff, reduceIte, Option.map_some, g0]) <;> exact rfl)
                  · exact (by (try simp only [val, get_set, get_nil, ofArgs, ofValue, Nat.reduceEqDiff, reduceIte, Option.map_some]) <;> exact rfl)
                  · exact (by (try simp only [val, get_set, get_nil, ofArgs, ofValue, Nat.reduceEqDiff, reduceIte, Option.map_some, g7]) <;> exact rfl)
                  · simpa using hoA
                  · intro b e
                    have q1 : (h3.new (.row [] 0 0)).2.next = h3.next + 1 := rfl
                    have := hbk1 b e
                    exact ⟨by omega, fun e' => by have := hbk3 b e'; omega, fun e' => by have := hbk4 b e'; omega⟩
                  · intro b e; have := hbk3 b e; omega
                  · intro b e; exact (hbk4 b e).2
                · clear hput hput2 hput3 hput4 hc9 hc92 hc93 hc94 ha1 ha2 hk1 hk2 hk3 hk4 hk5 hk6 hbk1 hbk2 hbk3 hbk4 hb5 hb6 ho1 ho3 ho3' ho4 ho4' ho5 ho6 hoA hkk g0 g1 g51 g52 g7 g11 g53 g9 g10 hnx1 hnx2 hnx3 hnx4 hn5 hn6 hn37 hst f3 hl1
                  rintro m tm h ⟨g125, g126, g19, g0, j, v, rfl, hj, g127, g7, hov, ho3, ho4, hbv, hb3, hb4⟩
                  by_cases hlt : j < y.length
                  · have f3 : Nat.blt j y.length = true := by rw [blt_eq]; simp [hlt]
                    obtain ⟨p, hp, hlp⟩ := own_at ho3 j hlt
                    have hyj := hylt y[j] (List.getElem_mem hlt)
                    have w5 : wrap .i64 (Int.ofNat y[j] + Int.ofNat A.length) = .ofNat (y[j] + A.length) := by rw [show Int.ofNat y[j] + Int.ofNat A.length = Int.ofNat (y[j] + A.length) from rfl, wrap_nat .i64 _ (by simp only [half]; omega)]
                    have htk : y.take (j + 1) = y.take j ++ [y[j]] := by rw [List.take_add_one, List.getElem?_eq_getElem hlt]; rfl
                    have q1 : (h.new (.row [.int .i64 (.ofNat (y[j] + A.length))] 0 0)).2.next = h.next + 1 := rfl
                    have keepn : ∀ b, b < h.next → (h.new (.row [.int .i64 (.ofNat (y[j] + A.length))] 0 0)).2.get b = h.get b := fun b hb => by rw [hget_new, if_neg (by omega)]
                    obtain ⟨v', h', hap, hov', hnn, hkn, hbn⟩ := (hov.keep fun b e => keepn b (hbv b e).1).append appT24 (x := .slice h.next 0 0 1 (some 1) 1) (m := 1) (new := [.int .i64 (.ofNat (y[j] + A.length))]) rfl
                      (by simp only [viewCells, readN, hget_new, reduceIte]; rfl) rfl rfl (by show _ ≤ 70368744177664; omega) (by show _ ≤ 70368744177664; omega) (fun b e => by have := (hbv b e).1; omega)
                    have chk_ : True := by simp only [hla, g125, g126, g19, g0, g127, g7, f3, hp, hlp, w5, bs24, putNew_eq, hap]
                    clear chk_
                    repeat (first | refine EvP.seq ?_ | refine EvP.region ?_ | refine OpsP.nil ?_ | refine GuardP.no ?_ | refine DGuardP.no ?_ | refine DrP.nil ?_ | refine CondP.t ?_ | refine CondP.f ?_ | refine EvP.ret ?_ | refine EvP.skip ?_ | refine EvP.exit ?_ | refine EvP.block ?_ | refine EvP.scope ?_  | ((first | refine OpsP.put (v := ?_) (h1 := ?_) ?hd ?he ?_ | refine OpsP.eff (v := ?_) (h1 := ?_) ?he ?_ | refine GuardP.yes (v := ?_) (h1 := ?_) ?he ?_  | (refine DrP.put (d := ?_) (op := ?_) (t := ?_) (p := ?_) (a := ?_) (v := ?_) (h1 := ?_) ?ho ?hd ?he ?_; (case ho => rfl)) | (refine DrP.eff (op := ?_) (t := ?_) (p := ?_) (a := ?_) (v := ?_) (h1 := ?_) ?ho ?he ?_; (case ho => rfl)) | refine DGuardP.yes (v := ?_) (h1 := ?_) ?he ?_); (try case hd => rfl); (case he => intro run; ((try simp only [evOp, evA, val, vals, oval, parts, get_set, get_nil, ofArgs, ofValue, binOpE, arith, ilt, convertE, unOpE, builtinE, callV, List.nil_append, List.append_nil, Option.bind_some, Option.map_some, Nat.reduceEqDiff, reduceIte, Bool.not_true, Bool.not_false, List.getElem?_cons_zero, List.getElem?_cons_succ, List.getElem?_toArray, Array.toList, List.mapM_cons, List.mapM_nil, Option.pure_def, Option.bind_eq_bind, hla, g125, g126, g19, g0, g127, g7, f3, hp, hlp, w5, bs24, putNew_eq, hap]) <;> exact rfl)))  | ((first | refine OpsP.guard (x := ?_) (b := ?_) ?hj ?hx ?hd ?_ | (refine DrP.guard (d := ?_) (op := ?_) (t := ?_) (p := ?_) (a := ?_) (j := ?_) (w := ?_) (x := ?_) (b := ?_) ?ho ?hj ?hx ?hd ?_; (case ho => rfl)) | refine EvP.condB (c := ?_) ?hx ?_); (try case hj => rfl); (case hx => ((try simp only [val, get_set, get_nil, ofArgs, ofValue, Nat.reduceEqDiff, reduceIte, Option.map_some, hla, g125, g126, g19, g0, g127, g7, f3, hp, hlp, w5, bs24, putNew_eq, hap]) <;> exact rfl)); (try case hd => rfl)))
                    refine ⟨y.length - (j + 1), by omega, ?_, ?_, ?_, ?_, j + 1, v', rfl, by omega, ?_, ?_, ?_, ?_, ?_, ?_, ?_, ?_⟩
                    · exact (by (try simp only [val, get_set, get_nil, ofArgs, ofValue, Nat.reduceEqDiff, reduceIte, Option.map_some, g125]) <;> exact rfl)
                    · exact (by (try simp only [val, get_set, get_nil, ofArgs, ofValue, Nat.reduceEqDiff, reduceIte, Option.map_some, g126]) <;> exact rfl)
                    · exact (by (try simp only [val, get_set, get_nil, ofArgs, ofValue, Nat.reduceEqDiff, reduceIte, Option.map_some, g19]) <;> exact rfl)
                    · exact (by (try simp only [val, get_set, get_nil, ofArgs, ofValue, Nat.reduceEqDiff, reduceIte, Option.map_some, g0]) <;> exact rfl)
                    · simp only [get_set, Nat.reduceEqDiff, reduceIte]
                      rw [show Int.ofNat j + 1 = Int.ofNat (j + 1) from rfl, wrap_nat .i64 (j + 1) (by simp only [half]; omega)]
                    · exact (by (try simp only [val, get_set, get_nil, ofArgs, ofValue, Nat.reduceEqDiff, reduceIte, Option.map_some]) <;> exact rfl)
                    · rw [htk]
                      have : i64s (l ++ (y.take j ++ [y[j]]).map (· + A.length)) = i64s (l ++ (y.take j).map (· + A.length)) ++ [.int .i64 (.ofNat (y[j] + A.length))] := by simp only [i64s, List.map_append, List.map_cons, List.map_nil, List.append_assoc]
                      rw [this]
                      exact hov'
                    · exact ho3.keep fun b e => by rw [hkn b (by have := hb3 b e; omega) (fun e' => (hbv b e').2.1 e), keepn b (hb3 b e)]
                    · exact ho4.keep fun b e => by rw [hkn b (by have := hb4 b e; omega) (fun e' => (hbv b e').2.2 e), keepn b (hb4 b e)]
                    · intro b e
                      obtain ⟨k1, k2⟩ := hbn b e
                      refine ⟨k1, ?_, ?_⟩
                      · rcases k2 with k2 | k2
                        · exact (hbv b k2).2.1
                        · intro e'; have := hb3 b e'; omega
                      · rcases k2 with k2 | k2
                        · exact (hbv b k2).2.2
                        · intro e'; have := hb4 b e'; omega
                    · intro b e; have := hb3 b e; omega
                    · intro b e; have := hb4 b e; omega
                  · have f3 : Nat.blt y.length y.length = false := by rw [blt_eq]; simp
                    have : j = y.length := by omega
                    subst this
                    rw [List.take_length] at hov
                    have hcl := fun run => call21_11 run (ho4.ints (by simp; omega)) (hov.ints (by omega))
                    rw [listBeq_self] at hcl
                    have chk_ : True := by simp only [g125, g126, g19, g0, g127, g7, f3, hcl, call21_8]
                    clear chk_
                    repeat (first | refine EvP.seq ?_ | refine EvP.region ?_ | refine OpsP.nil ?_ | refine GuardP.no ?_ | refine DGuardP.no ?_ | refine DrP.nil ?_ | refine CondP.t ?_ | refine CondP.f ?_ | refine EvP.ret ?_ | refine EvP.skip ?_ | refine EvP.exit ?_ | refine EvP.block ?_ | refine EvP.scope ?_  | ((first | refine OpsP.put (v := ?_) (h1 := ?_) ?hd ?he ?_ | refine OpsP.eff (v := ?_) (h1 := ?_) ?he ?_ | refine GuardP.yes (v := ?_) (h1 := ?_) ?he ?_  | (refine DrP.put (d := ?_) (op := ?_) (t := ?_) (p := ?_) (a := ?_) (v := ?_) (h1 := ?_) ?ho ?hd ?he ?_; (case ho => rfl)) | (refine DrP.eff (op := ?_) (t := ?_) (p := ?_) (a := ?_) (v := ?_) (h1 := ?_) ?ho ?he ?_; (case ho => rfl)) | refine DGuardP.yes (v := ?_) (h1 := ?_) ?he ?_); (try case hd => rfl); (case he => intro run; ((try simp only [evOp, evA, val, vals, oval, parts, get_set, get_nil, ofArgs, ofValue, binOpE, arith, ilt, convertE, unOpE, builtinE, callV, List.nil_append, List.append_nil, Option.bind_some, Option.map_some, Nat.reduceEqDiff, reduceIte, Bool.not_true, Bool.not_false, List.getElem?_cons_zero, List.getElem?_cons_succ, List.getElem?_toArray, Array.toList, List.mapM_cons, List.mapM_nil, Option.pure_def, Option.bind_eq_bind, g125, g126, g19, g0, g127, g7, f3, hcl, call21_8]) <;> exact rfl)))  | ((first | refine OpsP.guard (x := ?_) (b := ?_) ?hj ?hx ?hd ?_ | (refine DrP.guard (d := ?_) (op := ?_) (t := ?_) (p := ?_) (a := ?_) (j := ?_) (w := ?_) (x := ?_) (b := ?_) ?ho ?hj ?hx ?hd ?_; (case ho => rfl)) | refine EvP.condB (c := ?_) ?hx ?_); (try case hj => rfl); (case hx => ((try simp only [val, get_set, get_nil, ofArgs, ofValue, Nat.reduceEqDiff, reduceIte, Option.map_some, g125, g126, g19, g0, g127, g7, f3, hcl, call21_8]) <;> exact rfl)); (try case hd => rfl)))
                    refine ⟨_, rfl, ?_⟩
                    simp only [oneOf, get_set, Nat.reduceEqDiff, reduceIte]
              | false =>
                have : ok2 = Nat.beq K A.length := hok2
                subst this
                have chk_ : True := by simp only [hla, g0, g1, g51, g52, g7, g11, g53, g9, g10, f3, e1, ieq, hs2, hc92, hc93, hc94, bs22, putNew_eq, ha1, ha2, em4, ei4, bb, call21_8, hl3]
                clear chk_
                repeat (first | refine EvP.seq ?_ | refine EvP.region ?_ | refine OpsP.nil ?_ | refine GuardP.no ?_ | refine DGuardP.no ?_ | refine DrP.nil ?_ | refine CondP.t ?_ | refine CondP.f ?_ | refine EvP.ret ?_ | refine EvP.skip ?_ | refine EvP.exit ?_ | refine EvP.block ?_ | refine EvP.scope ?_  | ((first | refine OpsP.put (v := ?_) (h1 := ?_) ?hd ?he ?_ | refine OpsP.eff (v := ?_) (h1 := ?_) ?he ?_ | refine GuardP.yes (v := ?_) (h1 := ?_) ?he ?_  | (refine DrP.put (d := ?_) (op := ?_) (t := ?_) (p := ?_) (a := ?_) (v := ?_) (h1 := ?_) ?ho ?hd ?he ?_; (case ho => rfl)) | (refine DrP.eff (op := ?_) (t := ?_) (p := ?_) (a := ?_) (v := ?_) (h1 := ?_) ?ho ?he ?_; (case ho => rfl)) | refine DGuardP.yes (v := ?_) (h1 := ?_) ?he ?_); (try case hd => rfl); (case he => intro run; ((try simp only [evOp, evA, val, vals, oval, parts, get_set, get_nil, ofArgs, ofValue, binOpE, arith, ilt, convertE, unOpE, builtinE, callV, List.nil_append, List.append_nil, Option.bind_some, Option.map_some, Nat.reduceEqDiff, reduceIte, Bool.not_true, Bool.not_false, List.getElem?_cons_zero, List.getElem?_cons_succ, List.getElem?_toArray, Array.toList, List.mapM_cons, List.mapM_nil, Option.pure_def, Option.bind_eq_bind, hla, g0, g1, g51, g52, g7, g11, g53, g9, g10, f3, e1, ieq, hs2, hc92, hc93, hc94, bs22, putNew_eq, ha1, ha2, em4, ei4, bb, call21_8, hl3]) <;> exact rfl)))  | ((first | refine OpsP.guard (x := ?_) (b := ?_) ?hj ?hx ?hd ?_ | (refine DrP.guard (d := ?_) (op := ?_) (t := ?_) (p := ?_) (a := ?_) (j := ?_) (w := ?_) (x := ?_) (b := ?_) ?ho ?hj ?hx ?hd ?_; (case ho => rfl)) | refine EvP.condB (c := ?_) ?hx ?_); (try case hj => rfl); (case hx => ((try simp only [val, get_set, get_nil, ofArgs, ofValue, Nat.reduceEqDiff, reduceIte, Option.map_some, hla, g0, g1, g51, g52, g7, g11, g53, g9, g10, f3, e1, ieq, hs2, hc92, hc93, hc94, bs22, putNew_eq, ha1, ha2, em4, ei4, bb, call21_8, hl3]) <;> exact rfl)); (try case hd => rfl)))
                refine EvP.loop (fun m tm h => tm.get 125 = sl3 ∧ tm.get 126 = .int .i64 (.ofNat y.length) ∧ tm.get 19 = sl4 ∧ tm.get 0 = a ∧ ∃ j v, m = y.length - j ∧ j ≤ y.length ∧ tm.get 127 = .int .i64 (.ofNat j) ∧ tm.get 7 = v ∧
                    Own h 1 v (l.length + j) (i64s (l ++ (y.take j).map (· + A.length))) ∧ Own h 1 sl3 y.length (i64s y) ∧ Own h 1 sl4 (l ++ y.map (· + A.length)).length (i64s (l ++ y.map (· + A.length))) ∧
                    (∀ b, v.blk = some b → b < h.next ∧ sl3.blk ≠ some b ∧ sl4.blk ≠ some b) ∧ (∀ b, sl3.blk = some b → b < h.next) ∧ (∀ b, sl4.blk = some b → b < h.next)) y.length ?_ ?_
                · refine ⟨?_, ?_, ?_, ?_, 0, sl, rfl, Nat.zero_le _, ?_, ?_, ?_, ho3', ho4', ?_, ?_, ?_⟩
                  · exact (by (try simp only [val, get_set, get_nil, ofArgs, ofValue, Nat.reduceEqDiff, reduceIte, Option.map_some]) <;> exact rfl)
                  · exact (by (try simp only [val, get_set, get_nil, ofArgs, ofValue, Nat.reduceEqDiff, reduceIte, Option.map_some]) <;> exact rfl)
                  · exact (by (try simp only [val, get_set, get_nil, ofArgs, ofValue, Nat.reduceEqDiff, reduceIte, Option.map_some]) <;> exact rfl)
                  · exact (by (try simp only [val, get_set, get_nil, ofArgs, ofValue, Nat.reduceEqDiff, reduceIte, Option.map_some, g0]) <;> exact rfl)
                  · exact (by (try simp only [val, get_set, get_nil, ofArgs, ofValue, Nat.reduceEqDiff, reduceIte, Option.map_some]) <;> exact rfl)
                  · exact (by (try simp only [val, get_set, get_nil, ofArgs, ofValue, Nat.reduceEqDiff, reduceIte, Option.map_some, g7]) <;> exact rfl)
                  · simpa using hoA
                  · intro b e
                    have q1 : (h3.new (.row [] 0 0)).2.next = h3.next + 1 := rfl
                    have := hbk1 b e
                    exact ⟨by omega, fun e' => by have := hbk3 b e'; omega, fun e' => by have := hbk4 b e'; omega⟩
                  · intro b e; have := hbk3 b e; omega
                  · intro b e; exact (hbk4 b e).2
                · clear hput hput2 hput3 hput4 hc9 hc92 hc93 hc94 ha1 ha2 hk1 hk2 hk3 hk4 hk5 hk6 hbk1 hbk2 hbk3 hbk4 hb5 hb6 ho1 ho3 ho3' ho4 ho4' ho5 ho6 hoA hkk g0 g1 g51 g52 g7 g11 g53 g9 g10 hnx1 hnx2 hnx3 hnx4 hn5 hn6 hn37 hst f3 hl1
                  rintro m tm h ⟨g125, g126, g19, g0, j, v, rfl, hj, g127, g7, hov, ho3, ho4, hbv, hb3, hb4⟩
                  by_cases hlt : j < y.length
                  · have f3 : Nat.blt j y.length = true := by rw [blt_eq]; simp [hlt]
                    obtain ⟨p, hp, hlp⟩ := own_at ho3 j hlt
                    have hyj := hylt y[j] (List.getElem_mem hlt)
                    have w5 : wrap .i64 (Int.ofNat y[j] + Int.ofNat A.length) = .ofNat (y[j] + A.length) := by rw [show Int.ofNat y[j] + Int.ofNat A.length = Int.ofNat (y[j] + A.length) from rfl, wrap_nat .i64 _ (by simp only [half]; omega)]
                    have htk : y.take (j + 1) = y.take j ++ [y[j]] := by rw [List.take_add_one, List.getElem?_eq_getElem hlt]; rfl
                    have q1 : (h.new (.row [.int .i64 (.ofNat (y[j] + A.length))] 0 0)).2.next = h.next + 1 := rfl
                    have keepn : ∀ b, b < h.next → (h.new (.row [.int .i64 (.ofNat (y[j] + A.length))] 0 0)).2.get b = h.get b := fun b hb => by rw [hget_new, if_neg (by omega)]
                    obtain ⟨v', h', hap, hov', hnn, hkn, hbn⟩ := (hov.keep fun b e => keepn b (hbv b e).1).append appT24 (x := .slice h.next 0 0 1 (some 1) 1) (m := 1) (new := [.int .i64 (.ofNat (y[j] + A.length))]) rfl
                      (by simp only [viewCells, readN, hget_new, reduceIte]; rfl) rfl rfl (by show _ ≤ 70368744177664; omega) (by show _ ≤ 70368744177664; omega) (fun b e => by have := (hbv b e).1; omega)
                    have chk_ : True := by simp only [hla, g125, g126, g19, g0, g127, g7, f3, hp, hlp, w5, bs24, putNew_eq, hap]
                    clear chk_
                    repeat (first | refine EvP.seq ?_ | refine EvP.region ?_ | refine OpsP.nil ?_ | refine GuardP.no ?_ | refine DGuardP.no ?_ | refine DrP.nil ?_ | refine CondP.t ?_ | refine CondP.f ?_ | refine EvP.ret ?_ | refine EvP.skip ?_ | refine EvP.exit ?_ | refine EvP.block ?_ | refine EvP.scope ?_  | ((first | refine OpsP.put (v := ?_) (h1 := ?_) ?hd ?he ?_ | refine OpsP.eff (v := ?_) (h1 := ?_) ?he ?_ | refine GuardP.yes (v := ?_) (h1 := ?_) ?he ?_  | (refine DrP.put (d := ?_) (op := ?_) (t := ?_) (p := ?_) (a := ?_) (v := ?_) (h1 := ?_) ?ho ?hd ?he ?_; (case ho => rfl)) | (refine DrP.eff (op := ?_) (t := ?_) (p := ?_) (a := ?_) (v := ?_) (h1 := ?_) ?ho ?he ?_; (case ho => rfl)) | refine DGuardP.yes (v := ?_) (h1 := ?_) ?he ?_); (try case hd => rfl); (case he => intro run; ((try simp only [evOp, evA, val, vals, oval, parts, get_set, get_nil, ofArgs, ofValue, binOpE, arith, ilt, convertE, unOpE, builtinE, callV, List.nil_append, List.append_nil, Option.bind_some, Option.map_some, Nat.reduceEqDiff, reduceIte, Bool.not_true, Bool.not_false, List.getElem?_cons_zero, List.getElem?_cons_succ, List.getElem?_toArray, Array.toList, List.mapM_cons, List.mapM_nil, Option.pure_def, Option.bind_eq_bind, hla, g125, g126, g19, g0, g127, g7, f3, hp, hlp, w5, bs24, putNew_eq, hap]) <;> exact rfl)))  | ((first | refine OpsP.guard (x := ?_) (b := ?_) ?hj ?hx ?hd ?_ | (refine DrP.guard (d := ?_) (op := ?_) (t := ?_) (p := ?_) (a := ?_) (j := ?_) (w := ?_) (x := ?_) (b := ?_) ?ho ?hj ?hx ?hd ?_; (case ho => rfl)) | refine EvP.condB (c := ?_) ?hx ?_); (try case hj => rfl); (case hx => ((try simp only [val, get_set, get_nil, ofArgs, ofValue, Nat.reduceEqDiff, reduceIte, Option.map_some, hla, g125, g126, g19, g0, g127, g7, f3, hp, hlp, w5, bs24, putNew_eq, hap]) <;> exact rfl)); (try case hd => rfl)))
                    refine ⟨y.length - (j + 1), by omega, ?_, ?_, ?_, ?_, j + 1, v', rfl, by omega, ?_, ?_, ?_, ?_, ?_, ?_, ?_, ?_⟩
                    · exact (by (try simp only [val, get_set, get_nil, ofArgs, ofValue, Nat.reduceEqDiff, reduceIte, Option.map_some, g125]) <;> exact rfl)
                    · exact (by (try simp only [val, get_set, get_nil, ofArgs, ofValue, Nat.reduceEqDiff, reduceIte, Option.map_some, g126]) <;> exact rfl)
                    · exact (by (try simp only [val, get_set, get_nil, ofArgs, ofValue, Nat.reduceEqDiff, reduceIte, Option.map_some, g19]) <;> exact rfl)
                    · exact (by (try simp only [val, get_set, get_nil, ofArgs, ofValue, Nat.reduceEqDiff, reduceIte, Option.map_some, g0]) <;> exact rfl)
                    · simp only [get_set, Nat.reduceEqDiff, reduceIte]
                      rw [show Int.ofNat j + 1 = Int.ofNat (j + 1) from rfl, wrap_nat .i64 (j + 1) (by simp only [half]; omega)]
                    · exact (by (try simp only [val, get_set, get_nil, ofArgs, ofValue, Nat.reduceEqDiff, reduceIte, Option.map_some]) <;> exact rfl)
                    · rw [htk]
                      have : i64s (l ++ (y.take j ++ [y[j]]).map (· + A.length)) = i64s (l ++ (y.take j).map (· + A.length)) ++ [.int .i64 (.ofNat (y[j] + A.length))] := by simp only [i64s, List.map_append, List.map_cons, List.map_nil, List.append_assoc]
                      rw [this]
                      exact hov'
                    · exact ho3.keep fun b e => by rw [hkn b (by have := hb3 b e; omega) (fun e' => (hbv b e').2.1 e), keepn b (hb3 b e)]
                    · exact ho4.keep fun b e => by rw [hkn b (by have := hb4 b e; omega) (fun e' => (hbv b e').2.2 e), keepn b (hb4 b e)]
                    · intro b e
                      obtain ⟨k1, k2⟩ := hbn b e
                      refine ⟨k1, ?_, ?_⟩
                      · rcases k2 with k2 | k2
                        · exact (hbv b k2).2.1
                        · intro e'; have := hb3 b e'; omega
                      · rcases k2 with k2 | k2
                        · exact (hbv b k2).2.2
                        · intro e'; have := hb4 b e'; omega
                    · intro b e; have := hb3 b e; omega
                    · intro b e; have := hb4 b e; omega
                  · have f3 : Nat.blt y.length y.length = false := by rw [blt_eq]; simp
                    have : j = y.length := by omega
                    subst this
                    rw [List.take_length] at hov
                    have hcl := fun run => call21_11 run (ho4.ints (by simp; omega)) (hov.ints (by omega))
                    rw [listBeq_self] at hcl
                    have chk_ : True := by simp only [g125, g126, g19, g0, g127, g7, f3, hcl, call21_8]
                    clear chk_
                    repeat (first | refine EvP.seq ?_ | refine EvP.region ?_ | refine OpsP.nil ?_ | refine GuardP.no ?_ | refine DGuardP.no ?_ | refine DrP.nil ?_ | refine CondP.t ?_ | refine CondP.f ?_ | refine EvP.ret ?_ | refine EvP.skip ?_ | refine EvP.exit ?_ | refine EvP.block ?_ | refine EvP.scope ?_  | ((first | refine OpsP.put (v := ?_) (h1 := ?_) ?hd ?he ?_ | refine OpsP.eff (v := ?_) (h1 := ?_) ?he ?_ | refine GuardP.yes (v := ?_) (h1 := ?_) ?he ?_  | (refine DrP.put (d := ?_) (op := ?_) (t := ?_) (p := ?_) (a := ?_) (v := ?_) (h1 := ?_) ?ho ?hd ?he ?_; (case ho => rfl)) | (refine DrP.eff (op := ?_) (t := ?_) (p := ?_) (a := ?_) (v := ?_) (h1 := ?_) ?ho ?he ?_; (case ho => rfl)) | refine DGuardP.yes (v := ?_) (h1 := ?_) ?he ?_); (try case hd => rfl); (case he => intro run; ((try simp only [evOp, evA, val, vals, oval, parts, get_set, get_nil, ofArgs, ofValue, binOpE, arith, ilt, convertE, unOpE, builtinE, callV, List.nil_append, List.append_nil, Option.bind_some, Option.map_some, Nat.reduceEqDiff, reduceIte, Bool.not_true, Bool.not_false, List.getElem?_cons_zero, List.getElem?_cons_succ, List.getElem?_toArray, Array.toList, List.mapM_cons, List.mapM_nil, Option.pure_def, Option.bind_eq_bind, g125, g126, g19, g0, g127, g7, f3, hcl, call21_8]) <;> exact rfl)))  | ((first | refine OpsP.guard (x := ?_) (b := ?_) ?hj ?hx ?hd ?_ | (refine DrP.guard (d := ?_) (op := ?_) (t := ?_) (p := ?_) (a := ?_) (j := ?_) (w := ?_) (x := ?_) (b := ?_) ?ho ?hj ?hx ?hd ?_; (case ho => rfl)) | refine EvP.condB (c := ?_) ?hx ?_); (try case hj => rfl); (case hx => ((try simp only [val, get_set, get_nil, ofArgs, ofValue, Nat.reduceEqDiff, reduceIte, Option.map_some, g125, g126, g19, g0, g127, g7, f3, hcl, call21_8]) <;> exact rfl)); (try case hd => rfl)))
                    refine ⟨_, rfl, ?_⟩
                    simp only [oneOf, get_set, Nat.reduceEqDiff, reduceIte]
end Go.Ev

namespace Go.Ev
open Go.Proofs
set_option linter.unusedSimpArgs false
set_option linter.unusedVariables false
set_option maxHeartbeats 2000000
theorem cells36 : Try.prog.cellsOf 36 = 1 := by kernel_rfl
theorem under36 : Try.prog.underlying 36 = some (.int .u32) := by kernel_rfl
theorem rowT22 : rowT Try.prog 22 = false := by kernel_rfl
/-- A code that was handed in. -/
theorem code_arg {d B : Nat} {a : LV} (h : Arg Try.prog B (d + 2) 22 a) : ∃ n, (∀ hp, lenE Try.prog 22 a hp = some (.int .i64 (.ofNat n))) ∧ (n < 2 ^ 40 → ∃ A, codeOf a = some A ∧ A.length = n ∧ ∀ x ∈ A, x < 2 ^ 32) := by
  unfold Arg at h
  rw [rowT22] at h
  simp only [Shp, under22] at h
  rcases h with h | ⟨els, h, hl, hels⟩
  · cases h
    exact ⟨0, fun hp => by simp only [lenE, under22, lenOf?, Option.map_some], fun _ => ⟨[], rfl, rfl, by simp⟩⟩
  · cases h
    refine ⟨els.length, fun hp => by simp only [lenE, under22, lenOf?, Option.map_some], fun hn => ?_⟩
    have : ∃ A : List Nat, els.flatten = u32s A ∧ A.length = els.length ∧ ∀ x ∈ A, x < 2 ^ 32 := by
      clear hl hn
      induction els with
      | nil => exact ⟨[], rfl, rfl, by simp⟩
      | cons el els ih =>
        obtain ⟨A, h1, h2, h3⟩ := ih fun e he => hels e (List.mem_cons_of_mem _ he)
        obtain ⟨k1, i, rfl, hw⟩ := (by simpa [cells36, under36] using hels el (List.mem_cons_self ..) : el.length = 1 ∧ ∃ i, el = [.int .u32 i] ∧ (Lit.int .u32 i).wf = true)
        have hi : 0 ≤ i ∧ i ≤ 4294967295 := by simpa [Lit.wf, IntKind.min, IntKind.max, IntKind.signed, IntKind.bits] using hw
        obtain ⟨x, rfl⟩ := Int.eq_ofNat_of_zero_le hi.1
        refine ⟨x :: A, ?_, by simp [h2], ?_⟩
        · rw [List.flatten_cons, h1]; rfl
        · intro y hy
          rcases List.mem_cons.1 hy with rfl | hy
          · omega
          · exact h3 y hy
    obtain ⟨A, h1, h2, h3⟩ := this
    refine ⟨A, ?_, h2, h3⟩
    simp only [codeOf]
    rw [h1, if_pos ⟨by simp [u32s, h2], hn⟩, mapM_u32s]
theorem starts_longA (a b : LV) (n c : Nat) (hla : ∀ hp, lenE Try.prog 22 a hp = some (.int .i64 (.ofNat n))) (hn : 200 < n) : ∃ r h1, Evc Try.prog ov21 3 [a, b, .int .u8 (.ofNat c)] Heap.empty (r, h1) ∧ r = .bool true := by
  have f1 : Nat.blt 200 n = true := by rw [blt_eq]; simp [hn]
  refine Evc.of rfl Try.func3 rfl rfl ?_
  have chk_ : True := by simp only [hla, f1, call21_8]
  clear chk_
  repeat (first | refine EvP.seq ?_ | refine EvP.region ?_ | refine OpsP.nil ?_ | refine GuardP.no ?_ | refine DGuardP.no ?_ | refine DrP.nil ?_ | refine CondP.t ?_ | refine CondP.f ?_ | refine EvP.ret ?_ | refine EvP.skip ?_ | refine EvP.exit ?_ | refine EvP.block ?_ | refine EvP.scope ?_  | ((first | refine OpsP.put (v := ?_) (h1 := ?_) ?hd ?he ?_ | refine OpsP.eff (v := ?_) (h1 := ?_) ?he ?_ | refine GuardP.yes (v := ?_) (h1 := ?_) ?he ?_  | (refine DrP.put (d := ?_) (op := ?_) (t := ?_) (p := ?_) (a := ?_) (v := ?_) (h1 := ?_) ?ho ?hd ?he ?_; (case ho => rfl)) | (refine DrP.eff (op := ?_) (t := ?_) (p := ?_) (a := ?_) (v := ?_) (h1 := ?_) ?ho ?he ?_; (case ho => rfl)) | refine DGuardP.yes (v := ?_) (h1 := ?_) ?he ?_); (try case hd => rfl); (case he => intro run; ((try simp only [evOp, evA, val, vals, oval, parts, get_set, get_nil, ofArgs, ofValue, binOpE, arith, ilt, convertE, unOpE, builtinE, callV, List.nil_append, List.append_nil, Option.bind_some, Option.map_some, Nat.reduceEqDiff, reduceIte, Bool.not_true, Bool.not_false, List.getElem?_cons_zero, List.getElem?_cons_succ, List.getElem?_toArray, Array.toList, List.mapM_cons, List.mapM_nil, Option.pure_def, Option.bind_eq_bind, hla, f1, call21_8]) <;> exact rfl)))  | ((first | refine OpsP.guard (x := ?_) (b := ?_) ?hj ?hx ?hd ?_ | (refine DrP.guard (d := ?_) (op := ?_) (t := ?_) (p := ?_) (a := ?_) (j := ?_) (w := ?_) (x := ?_) (b := ?_) ?ho ?hj ?hx ?hd ?_; (case ho => rfl)) | refine EvP.condB (c := ?_) ?hx ?_); (try case hj => rfl); (case hx => ((try simp only [val, get_set, get_nil, ofArgs, ofValue, Nat.reduceEqDiff, reduceIte, Option.map_some, hla, f1, call21_8]) <;> exact rfl)); (try case hd => rfl)))
  refine ⟨_, rfl, ?_⟩
  simp only [oneOf, get_set, Nat.reduceEqDiff, reduceIte]
theorem starts_longB (a b : LV) (n m c : Nat) (hla : ∀ hp, lenE Try.prog 22 a hp = some (.int .i64 (.ofNat n))) (hlb : ∀ hp, lenE Try.prog 22 b hp = some (.int .i64 (.ofNat m))) (hn : ¬ 200 < n) (hm : 200 < m) : ∃ r h1, Evc Try.prog ov21 3 [a, b, .int .u8 (.ofNat c)] Heap.empty (r, h1) ∧ r = .bool true := by
  have f1 : Nat.blt 200 n = false := by rw [blt_eq]; simp; omega
  have f2 : Nat.blt 200 m = true := by rw [blt_eq]; simp [hm]
  refine Evc.of rfl Try.func3 rfl rfl ?_
  have chk_ : True := by simp only [hla, hlb, f1, f2, call21_8]
  clear chk_
  repeat (first | refine EvP.seq ?_ | refine EvP.region ?_ | refine OpsP.nil ?_ | refine GuardP.no ?_ | refine DGuardP.no ?_ | refine DrP.nil ?_ | refine CondP.t ?_ | refine CondP.f ?_ | refine EvP.ret ?_ | refine EvP.skip ?_ | refine EvP.exit ?_ | refine EvP.block ?_ | refine EvP.scope ?_  | ((first | refine OpsP.put (v := ?_) (h1 := ?_) ?hd ?he ?_ | refine OpsP.eff (v := ?_) (h1 := ?_) ?he ?_ | refine GuardP.yes (v := ?_) (h1 := ?_) ?he ?_  | (refine DrP.put (d := ?_) (op := ?_) (t := ?_) (p := ?_) (a := ?_) (v := ?_) (h1 := ?_) ?ho ?hd ?he ?_; (case ho => rfl)) | (refine DrP.eff (op := ?_) (t := ?_) (p := ?_) (a := ?_) (v := ?_) (h1 := ?_) ?ho ?he ?_; (case ho => rfl)) | refine DGuardP.yes (v := ?_) (h1 := ?_) ?he ?_); (try case hd => rfl); (case he => intro run; ((try simp only [evOp, evA, val, vals, oval, parts, get_set, get_nil, ofArgs, ofValue, binOpE, arith, ilt, convertE, unOpE, builtinE, callV, List.nil_append, List.append_nil, Option.bind_some, Option.map_some, Nat.reduceEqDiff, reduceIte, Bool.not_true, Bool.not_false, List.getElem?_cons_zero, List.getElem?_cons_succ, List.getElem?_toArray, Array.toList, List.mapM_cons, List.mapM_nil, Option.pure_def, Option.bind_eq_bind, hla, hlb, f1, f2, call21_8]) <;> exact rfl)))  | ((first | refine OpsP.guard (x := ?_) (b := ?_) ?hj ?hx ?hd ?_ | (refine DrP.guard (d := ?_) (op := ?_) (t := ?_) (p := ?_) (a := ?_) (j := ?_) (w := ?_) (x := ?_) (b := ?_) ?ho ?hj ?hx ?hd ?_; (case ho => rfl)) | refine EvP.condB (c := ?_) ?hx ?_); (try case hj => rfl); (case hx => ((try simp only [val, get_set, get_nil, ofArgs, ofValue, Nat.reduceEqDiff, reduceIte, Option.map_some, hla, hlb, f1, f2, call21_8]) <;> exact rfl)); (try case hd => rfl)))
  refine ⟨_, rfl, ?_⟩
  simp only [oneOf, get_set, Nat.reduceEqDiff, reduceIte]
theorem law_starts {B : Nat} (us : List LV) (h : Args Try.prog B 6 [22, 22, 5] us) : ∃ k h1, evF Try.prog ov21 k 3 us Heap.empty = some (.bool true, h1) := by
  match us, h with
  | [a, b, c], ⟨ha, hb, hc, _⟩ =>
    obtain ⟨n, hla, hA⟩ := code_arg ha
    obtain ⟨m, hlb, hB⟩ := code_arg hb
    obtain ⟨i, e, hw⟩ : ∃ i, [c] = [LV.int .u8 i] ∧ (Lit.int .u8 i).wf = true := by
      have hr : rowT Try.prog 5 = false := by kernel_rfl
      unfold Arg at hc
      rw [hr] at hc
      simpa only [Shp, under5] using hc
    cases e
    have hi : 0 ≤ i ∧ i ≤ 255 := by simpa [Lit.wf, IntKind.min, IntKind.max, IntKind.signed, IntKind.bits] using hw
    obtain ⟨x, rfl⟩ := Int.eq_ofNat_of_zero_le hi.1
    have done : (∃ r h1, Evc Try.prog ov21 3 [a, b, .int .u8 (.ofNat x)] Heap.empty (r, h1) ∧ r = .bool true) := by
      by_cases hn : 200 < n
      · exact starts_longA a b n x hla hn
      · by_cases hm : 200 < m
        · exact starts_longB a b n m x hla hlb hn hm
        · obtain ⟨A, h1, _, _⟩ := hA (by omega)
          obtain ⟨B, h2, _, _⟩ := hB (by omega)
          exact starts_body3 a b A B x h1 h2 (by omega)
    obtain ⟨r, h1, ⟨K, hK⟩, rfl⟩ := done
    exact ⟨K, h1, hK K (Nat.le_refl _)⟩
end Go.Ev
