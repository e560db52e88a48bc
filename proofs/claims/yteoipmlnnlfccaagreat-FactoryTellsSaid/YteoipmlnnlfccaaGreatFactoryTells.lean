/-
  FactoryTells returns true for every number, and leaves its argument as it was; no conditions.
-/
import Derived.Test.YteoipmlnnlfccaaGreatFdD
import Derived.Test.YteoipmlnnlfccaaGreatEvC
import Derived.Test.YteoipmlnnlfccaaGreatRows
import Derived.WalkKit
import Derived.ProofKit
import Derived.OpenShut
namespace Go.Ev
noncomputable section
open Go.Proofs
set_option linter.unusedSimpArgs false
set_option linter.unusedVariables false
set_option maxRecDepth 1000000
set_option maxHeartbeats 4000000
/-! ## FactoryTells, walked -/
theorem uWords : Tryz.prog.underlying 22 = some (.slice 31) := by kernel_rfl
theorem uCode : Tryz.prog.underlying 29 = some (.slice 32) := by kernel_rfl
theorem szWord : szOf Tryz.prog 31 = some 3 := by kernel_rfl
theorem szStr : szOf Tryz.prog 9 = some 1 := by kernel_rfl
theorem aggStr : isAggB Tryz.prog 9 = some false := by kernel_rfl
theorem aggCode : isAggB Tryz.prog 29 = some false := by kernel_rfl
theorem faW2 (b g o : Nat) : fieldAddrOp Tryz.prog 31 (.ptr b g o) 2 = some (.ptr b g (o + 2)) := by kernel_rfl
theorem faW0 (b g o : Nat) : fieldAddrOp Tryz.prog 31 (.ptr b g o) 0 = some (.ptr b g (o + 0)) := by kernel_rfl
theorem iaW (b g i n : Nat) (c : Option Nat) (hi : i < n) : indexAddrOp Tryz.prog 22 (.slice b g 0 n c 3) (.int .i64 (.ofNat i)) = some (.ptr b g (i * 3)) := by
  have h1 : Nat.blt i n = true := by rw [blt_eq]; simp [hi]
  simp only [indexAddrOp, asNat?, Option.bind_some, uWords, szWord, h1, Nat.beq, Bool.and_self, Nat.zero_add]
theorem iaC0 (b n : Nat) (c : Option Nat) (hn : 0 < n) : indexAddrOp Tryz.prog 29 (.slice b 0 0 n c 1) (.int .i64 0) = some (.ptr b 0 0) := by
  have h1 : Nat.blt 0 n = true := by rw [blt_eq]; simp [hn]
  show indexAddrOp Tryz.prog 29 (.slice b 0 0 n c 1) (.int .i64 (.ofNat 0)) = _
  simp only [indexAddrOp, asNat?, Option.bind_some, uCode, szU32, h1, Nat.beq, Bool.and_self, Nat.zero_mul, Nat.add_zero]
theorem ld1 {h : Heap} {t : TypeId} (ha : isAggB Tryz.prog t = some false) {b g o : Nat} {v : LV} (hr : readN h b g o 1 = some [v]) : loadAt Tryz.prog t (.ptr b g o) h = some v := by
  simp only [loadAt, ha, hr, Option.bind_some, List.head?]
theorem st1 {h : Heap} {t : TypeId} (hs : szOf Tryz.prog t = some 1) {b g o wlo : Nat} {cs : List LV} {v : LV} (hb : h.get b = some (.row cs g wlo)) (ho : o < cs.length) (hv : v.cells = [v]) (hc : v.isCell = true) :
    ∃ cs' wlo', storeAt Tryz.prog t (.ptr b g o) v h = some (h.set b (.row cs' g wlo')) ∧ cs'.length = cs.length := by
  have h1 : Nat.ble (o + 1) cs.length = true := by rw [ble_eq]; simp; omega
  have h2 : Nat.beq g g = true := by rw [beq_eq]; simp
  refine ⟨splice cs o [v], (match Nat.beq g 0 with | true => wlo | false => Nat.min wlo o), ?_, splice_length _ _ _ (by simp; omega)⟩
  simp only [storeAt, hs, Option.bind_some, hv, List.length_singleton, Nat.beq, List.all_cons, List.all_nil, hc, Bool.and_self, writeN, hb, h2, h1, Bool.true_and, Nat.zero_add, Nat.reduceAdd]
  cases Nat.beq g 0 <;> rfl
theorem genIs_ok {fh : FH} {h : Heap} (r : HR fh h) {b g n : Nat} (e : genIs fh b g n = true) : ∃ cs wlo, h.get b = some (.row cs g wlo) ∧ n < cs.length := by
  unfold genIs fRow at e
  cases hg : T.get fh.objs b with
  | none => rw [hg] at e; cases e
  | some fo =>
    rw [hg] at e
    cases fo with
    | obj o => cases e
    | row ch len gen wlo =>
      obtain ⟨cs, h1, h2, h3⟩ := r.row hg
      have e' : andF (Nat.beq gen g) (Nat.blt n len) = true := e
      rw [andF_eq, Bool.and_eq_true] at e'
      have := Nat.eq_of_beq_eq_true e'.1
      subst this
      exact ⟨cs, wlo, h1, by rw [← h3]; simpa [blt_eq] using e'.2⟩
theorem optF_true {β : Type} {x : Option β} {f : β → Bool} (e : optF x f false = true) : ∃ z, x = some z ∧ f z = true := by cases x with | none => cases e | some z => exact ⟨z, rfl, e⟩
theorem chkAt_ok {fh : FH} {h : Heap} (r : HR fh h) {i : Nat} (e : chkAt fh i = true) : ∃ b n c x, readN h 232 101 (i * 3 + 2) 1 = some [.slice b 0 0 n c 1] ∧ 0 < n ∧ b < 748 ∧ (∃ cs wlo, h.get b = some (.row cs 0 wlo) ∧ 0 < cs.length) ∧ readN h b 0 0 1 = some [.int .u32 (.ofNat x)] := by
  obtain ⟨v, h1, e⟩ := optF_true e
  have h1' := cellF_ok r h1
  cases v with
  | slice b g o n c es =>
    have e' : andF (Nat.beq g 0) _ = true := e
    simp only [andF_eq, Bool.and_eq_true] at e'
    obtain ⟨e1, e2, e3, e4, e5, e6, e7⟩ := e'
    have := Nat.eq_of_beq_eq_true e1; subst this
    have := Nat.eq_of_beq_eq_true e2; subst this
    have := Nat.eq_of_beq_eq_true e3; subst this
    obtain ⟨c0, h2, h3⟩ := optF_true e7
    have h2' := cellF_ok r h2
    cases c0 with
    | int k x =>
      cases x with
      | negSucc x => cases h3
      | ofNat x =>
        have := ikF_inj (show Nat.beq (ikF k) (ikF .u32) = true from h3)
        subst this
        exact ⟨b, n, c, x, h1', by simpa [blt_eq] using e4, by simpa [blt_eq] using e5, genIs_ok r e6, h2'⟩
    | _ => cases h3
  | _ => cases e
theorem ofv_int (k : IntKind) (n : Int) : ofValue 4 (.int k n) = some (.int k n) := rfl
theorem tells_body (w : Nat) (hw : w < 256) : ∃ r h1, Evc Tryz.prog ov27 3 [.int .u8 (.ofNat w)] Heap.empty (r, h1) ∧ r = .bool true := by
  have hshow := tells_pre w
  unfold tellsShow at hshow
  simp only [Prod.mk.injEq] at hshow
  obtain ⟨s0, s3, sn, sg, sc⟩ := hshow
  have hrun := isNorm_ok sn
  have hsuf := tells_suf w
  refine Evc.of rfl Tryz.func3 rfl rfl ?_
  refine EvP.pieces fw27_ok 20000 4 _ _ _ _ _ _ .empty hrun fun h1 hr => ?_
  generalize hfh : resFH (tellsPre w) = fh at hr sg sc hsuf
  generalize htm : resTm (tellsPre w) = tm at s0 s3 hsuf
  rw [gvF_eq] at s0 s3
  have hi : w % 103 < 103 := Nat.mod_lt _ (by omega)
  obtain ⟨b, n, c, x, q1, q2, q3, ⟨csb, wb, q4, q5⟩, q6⟩ := chkAt_ok hr (allUpTo_ok sc (w % 103) hi)
  obtain ⟨csl, wl, q7, q8⟩ := genIs_ok hr sg
  have lenL : lenE Tryz.prog 22 (.slice 232 101 0 103 none 3) h1 = some (.int .i64 (.ofNat 103)) := by simp only [lenE, uWords, lenOf?, Option.map_some]
  have hwr : wrap .i64 (.ofNat w) = .ofNat w := wrap_nat .i64 w (by simp only [half]; omega)
  have hrem : (Int.ofNat w).tmod (Int.ofNat 103) = .ofNat (w % 103) := rfl
  have ia := iaW 232 101 (w % 103) 103 none hi
  have l1 := ld1 aggCode q1
  have i0 := iaC0 b n c q2
  have l2 := ld1 aggU32 q6
  have fin : ∀ y : Int, ∃ h2 h3, storeAt Tryz.prog 32 (.ptr b 0 0) (.int .u32 y) h1 = some h2 ∧ storeAt Tryz.prog 9 (.ptr 232 101 (w % 103 * 3 + 0)) (.str [111, 116, 104, 101, 114]) h2 = some h3 ∧ h3.next = h1.next ∧ ∀ k, 748 ≤ k → h3.get k = h1.get k := by
    intro y
    obtain ⟨cs1, w1, e1, e2⟩ := st1 szU32 (v := .int .u32 y) q4 q5 rfl rfl
    have hb' : ∃ cs wlo, (h1.set b (.row cs1 0 w1)).get 232 = some (.row cs 101 wlo) ∧ 308 < cs.length := by
      by_cases e : b = 232
      · subst e; rw [q4] at q7; injection q7 with q7; injection q7 with _ q7 _; cases q7
      · exact ⟨csl, wl, by rw [Heap.get_set_ne _ _ e]; exact q7, q8⟩
    obtain ⟨cs2, w2, e3, e4⟩ := hb'
    obtain ⟨cs3, w3, e5, e6⟩ := st1 szStr (o := w % 103 * 3 + 0) (v := .str [111, 116, 104, 101, 114]) e3 (by omega) rfl rfl
    exact ⟨_, _, e1, e5, rfl, fun k hk => by rw [Heap.get_set_ne _ _ (by omega), Heap.get_set_ne _ _ (by omega)]⟩
  have hstr : ofValue 4 (.string { data := #[111, 116, 104, 101, 114] }) = some (.str [111, 116, 104, 101, 114]) := by kernel_rfl
  obtain ⟨h2, h3, e1, e2, e3, e4⟩ := fin (wrap .u32 (Int.ofNat x + 1))
  have chk_ : True := by simp only [ofv_int, hstr, s0, s3, lenL, hwr, hrem, ia, faW2, faW0, l1, i0, l2, e1, e2]
  clear chk_
  iterate 30 (first | refine EvP.seq ?_ | refine EvP.region ?_ | refine OpsP.nil ?_ | refine GuardP.no ?_ | refine DGuardP.no ?_ | refine DrP.nil ?_ | refine CondP.t ?_ | refine CondP.f ?_ | refine EvP.ret ?_ | refine EvP.skip ?_ | refine EvP.exit ?_ | refine EvP.block ?_ | refine EvP.scope ?_  | ((first | refine OpsP.put (v := ?_) (h1 := ?_) ?hd ?he ?_ | refine OpsP.eff (v := ?_) (h1 := ?_) ?he ?_ | refine GuardP.yes (v := ?_) (h1 := ?_) ?he ?_  | (refine DrP.put (d := ?_) (op := ?_) (t := ?_) (p := ?_) (a := ?_) (v := ?_) (h1 := ?_) ?ho ?hd ?he ?_; (case ho => rfl)) | (refine DrP.eff (op := ?_) (t := ?_) (p := ?_) (a := ?_) (v := ?_) (h1 := ?_) ?ho ?he ?_; (case ho => rfl)) | refine DGuardP.yes (v := ?_) (h1 := ?_) ?he ?_); (try case hd => rfl); (case he => intro run; ((try simp only [evOp, evA, val, vals, oval, parts, get_set, get_nil, ofArgs, binOpE, arith, ilt, convertE, unOpE, builtinE, lenE, callV, List.nil_append, List.append_nil, Option.bind_some, Option.map_some, Nat.reduceEqDiff, reduceIte, Bool.not_true, Bool.not_false, List.getElem?_cons_zero, List.getElem?_cons_succ, List.getElem?_toArray, Array.toList, List.mapM_cons, List.mapM_nil, Option.pure_def, Option.bind_eq_bind, ofv_int, hstr, s0, s3, lenL, hwr, hrem, ia, faW2, faW0, l1, i0, l2, e1, e2]) <;> exact rfl)))  | ((first | refine OpsP.guard (x := ?_) (b := ?_) ?hj ?hx ?hd ?_ | (refine DrP.guard (d := ?_) (op := ?_) (t := ?_) (p := ?_) (a := ?_) (j := ?_) (w := ?_) (x := ?_) (b := ?_) ?ho ?hj ?hx ?hd ?_; (case ho => rfl)) | refine EvP.condB (c := ?_) ?hx ?_); (try case hj => rfl); (case hx => ((try simp only [val, get_set, get_nil, ofArgs, ofValue, Nat.reduceEqDiff, reduceIte, Option.map_some, ofv_int, hstr, s0, s3, lenL, hwr, hrem, ia, faW2, faW0, l1, i0, l2, e1, e2]) <;> exact rfl)); (try case hd => rfl))  | ((first | refine OpsP.undef (x := ?_) ?hj ?hx ?hd ?_ | (refine DrP.undef (d := ?_) (op := ?_) (t := ?_) (p := ?_) (a := ?_) (j := ?_) (w := ?_) (x := ?_) ?ho ?hj ?hx ?hd ?_; (case ho => rfl))); (case hj => rfl); (case hx => ((try simp only [val, get_set, get_nil, ofArgs, ofValue, Nat.reduceEqDiff, reduceIte, Option.map_some, ofv_int, hstr, s0, s3, lenL, hwr, hrem, ia, faW2, faW0, l1, i0, l2, e1, e2]) <;> exact rfl)); (case hd => rfl)))
  subst hfh
  subst htm
  have hend := tellsEnd_ok (hsuf (.slice 232 101 0 103 none 3) (.int .u8 (Int.ofNat w)) (.int .i64 (wrap .i64 (Int.ofNat w))) (.slice 232 101 0 103 none 3) (.int .i64 (Int.ofNat 103)) (.int .i64 (Int.ofNat (w % 103))) (.ptr 232 101 (w % 103 * 3)) (.ptr 232 101 (w % 103 * 3)) (.ptr 232 101 (w % 103 * 3)) (.ptr 232 101 (w % 103 * 3)) (.ptr 232 101 (w % 103 * 3 + 2)) (.slice b 0 0 n c 1) (.ptr b 0 0) (.int .u32 (Int.ofNat x)) (.int .u32 (wrap .u32 (Int.ofNat x + 1))) (.ptr b 0 0) (.ptr 232 101 (w % 103 * 3)) (.ptr 232 101 (w % 103 * 3)) (.ptr 232 101 (w % 103 * 3 + 0)))
  refine EvP.fv fw27_ok (hr.keep 748 500 e3 e4) hend.1 fun h' _ => ?_
  refine ⟨[.bool true], ?_, rfl⟩
  have h2 := hend.2
  rw [gvF_eq] at h2
  show (resultsE Tryz.prog _ _ []).map (Tmps.get _ 2 :: ·) = _
  rw [h2]
  rfl
end
end Go.Ev

namespace Go.Proofs.YteoipmlnnlfccaaGreat.factoryTells
open Go.ChangeShapes Go.WideShapes Go.ChangeAt Go.RowKit Go.Ev

theorem own : ownKnob Tryz.prog.godebug = none := by kernel_rfl
theorem law (x : Int) (h0 : 0 ≤ x) (h1 : x ≤ 255) (w : World) : Calls Tryz.prog 3 #[.int .u8 x] w fun e w' => e = .returned (.bool true) ∧ Below w.heap.size w w' := by
  obtain ⟨n, rfl⟩ := Int.eq_ofNat_of_zero_le h0
  obtain ⟨r, h1, ⟨K, hK⟩, rfl⟩ := tells_body n (by omega)
  refine law_calls prog_ok ov27_ok Tryz.func3 rfl (hK K (Nat.le_refl _)) ⟨rfl, fun i v x hv hx => ?_⟩
  match i with
  | 0 => cases hv; cases hx; exact .int _ _
  | i + 1 => cases hv

set_option maxRecDepth 100000 in
theorem lifted (os : Os) (started : os.Started) (H : Type) (enc : TypeId × Value → H) :
    ReturnsInHanded {} Tryz.checked os 3 .any (Rows.factoryTellsSpec.pre6 enc Tryz.prog Tryz.f3 Rows.factoryTellsRow.domain false) (Rows.factoryTellsSpec.post enc Tryz.prog Tryz.f3 false true false false) := by
  refine returnsInHanded_of_change (C := Tryz.checked) own started (by kernel_rfl) Tryz.func3
    (ChangeSpec.witness6 (enc := enc) (C := Tryz.checked) false ⟨#[], #[.int .u8 0], []⟩ 8 (by kernel_rfl) (by kernel_rfl) (by kernel_rfl) (by kernel_rfl)) ?_
  intro W base args ds gs before hval0 hW _ _
  have hval : ∀ (j : Nat) t v, Tryz.f3.params[j]? = some t → args[j]? = some v → Value.okWide Tryz.prog W .any base t v := hval0
  have hW' := hW
  obtain ⟨p, q, hA0, hV, rfl, _, _⟩ := hW
  have hA : DataW.TrodAll enc Tryz.prog W 0 (fun _ => true) true Tryz.f3.params.toList args.toList ds p := hA0
  rw [Tryz.params3] at hA hval
  obtain ⟨v0, d0, rfl, rfl, h0⟩ := trodAll_one hA
  obtain ⟨rfl, rfl⟩ := trodVars_none hV
  obtain ⟨x, rfl, rfl, rfl, wx⟩ := open_int Tryz.underlying5 (hval 0 5 v0 rfl rfl) h0
  have hx : 0 ≤ x ∧ x ≤ 255 := by simpa [Lit.wf, IntKind.min, IntKind.max, IntKind.signed, IntKind.bits] using wx
  simp only [List.append_nil] at hW'
  refine (law x hx.1 hx.2 W).mono fun e W' ⟨he, hb⟩ => ?_
  subst he
  exact ⟨_, rfl, _, _, _, [], [], [], hW', trodAll_mk1 (shut_bool Tryz.underlying4 _), trodAll_mk1 (shut_int Tryz.underlying5 wx), rfl, hb.frame _, fun h => by cases h⟩

theorem proved : Rows.FactoryTellsSaid :=
  OpenClaim.holds_of_wide 3 Tryz.f3 rfl rfl rfl rfl rfl rfl rfl ⟨rfl, rfl, rfl, rfl, rfl⟩ rfl rfl rfl rfl rfl (by kernel_rfl) Tryz.func3 (by kernel_rfl)
    (of_decide_eq_true (by kernel_rfl)) (by unfold Func.isWrapper; first | (rw [if_pos (by decide +kernel)]; kernel_rfl) | (rw [if_neg (by decide +kernel)]; exact ⟨rfl, rfl⟩))
    (fun os started H enc _ => lifted os started H enc)
#print axioms proved
end Go.Proofs.YteoipmlnnlfccaaGreat.factoryTells
