/-
  A certified evaluator of the model's programs, third part: slices that are appended to, memories that are adopted, new bytes that nobody tells; no conditions.
-/
import Derived.Test.YteoipmlnnlfccaaGreatEvB
import Derived.Lib.MakeNoZero
import Derived.Laws.Externs
namespace Go.Ev
noncomputable section
set_option linter.unusedSimpArgs false
set_option linter.unusedVariables false

/-! ## Slices that may be appended to -/
def LV.blk : LV → Option Nat
  | .slice b _ _ _ _ _ => some b
  | _ => none
inductive Own (h : Heap) (es : Nat) : LV → Nat → List LV → Prop
  | nils : Own h es .nils 0 []
  | row {b g o n : Nat} {cap : Option Nat} {cs cells : List LV} {wlo : Nat} (hb : h.get b = some (.row cs g wlo)) (hn : o + n * es ≤ cs.length) (hc : ∀ c, cap = some c → n ≤ c ∧ o + c * es ≤ cs.length)
      (hcells : cells = (cs.drop o).take (n * es)) : Own h es (.slice b g o n cap es) n cells
theorem Own.len {h : Heap} {es n : Nat} {v : LV} {cells : List LV} (ho : Own h es v n cells) : cells.length = n * es := by
  cases ho with
  | nils => simp
  | row hb hn hc hcells => subst hcells; simp; omega
theorem Own.lenOf {h : Heap} {es n : Nat} {v : LV} {cells : List LV} (ho : Own h es v n cells) : lenOf? v = some n := by cases ho <;> rfl
theorem readN_all {h : Heap} {b g o n : Nat} {cs : List LV} {wlo : Nat} (hb : h.get b = some (.row cs g wlo)) (hn : o + n ≤ cs.length) : readN h b g o n = some ((cs.drop o).take n) := by
  have h1 : Nat.beq g g = true := by rw [beq_eq]; simp
  have h2 : Nat.ble (o + n) cs.length = true := by rw [ble_eq]; simp [hn]
  simp only [readN, hb, isHi, h1, h2, Bool.and_self]
theorem Own.view {h : Heap} {es n : Nat} {v : LV} {cells : List LV} (ho : Own h es v n cells) : viewCells h v = some cells := by
  cases ho with
  | nils => rfl
  | row hb hn hc hcells => subst hcells; exact readN_all hb hn
/-- What is not touched stays. -/
theorem Own.keep {h h' : Heap} {es n : Nat} {v : LV} {cells : List LV} (ho : Own h es v n cells) (hk : ∀ b, v.blk = some b → h'.get b = h.get b) : Own h' es v n cells := by
  cases ho with
  | nils => exact .nils
  | row hb hn hc hcells => exact .row ((hk _ rfl).trans hb) hn hc hcells
theorem Own.fresh {h : Heap} {es n : Nat} (cs : List LV) (hl : cs.length = n * es) (cap : Option Nat) (hc : ∀ c, cap = some c → c = n) : Own (h.new (.row cs 0 0)).2 es (.slice h.next 0 0 n cap es) n cs := by
  refine .row (by rw [hget_new, if_pos rfl]) (by omega) (fun c e => ?_) ?_
  · rw [hc c e]; exact ⟨Nat.le_refl _, by omega⟩
  · rw [List.drop_zero, List.take_of_length_le (by omega)]
theorem splice_app {cs new : List LV} {o n m : Nat} (hn : o + n ≤ cs.length) (hm : o + n + new.length ≤ cs.length) : ((splice cs (o + n) new).drop o).take (n + new.length) = (cs.drop o).take n ++ new := by
  unfold splice
  have h1 : (cs.take (o + n)).length = o + n := by simp; omega
  rw [List.drop_append_of_le_length (by simp; omega), List.drop_append_of_le_length (by omega), List.drop_take, show o + n - o = n by omega]
  have h2 : ((cs.drop o).take n ++ new).length = n + new.length := by simp; omega
  rw [← h2, List.take_left]
theorem splice_len {cs new : List LV} {o : Nat} (hm : o + new.length ≤ cs.length) : (splice cs o new).length = cs.length := by
  simp [splice]; omega
section
variable {P : Program} {t e : TypeId} {t2 : Option TypeId} {es by_ : Nat}
/-- What an append asks of its types. -/
structure AppT (P : Program) (t e : TypeId) (t2 : Option TypeId) (es by_ : Nat) : Prop where
  hu : P.underlying t = some (.slice e)
  hs : szOf P e = some es
  hb : bytesOfT P e = some by_
  hz : zerosB P t2 = some false
  z : ∃ z, zeroLV P e = some z ∧ z.cells.length = es
  h0 : es ≠ 0
theorem freshRow_eq {P : Program} {t e : TypeId} {t2 : Option TypeId} {es by_ : Nat} (T : AppT P t e t2 es by_) (n : Nat) (cs : List LV) (h : Heap) : freshRow P e es n cs h = some (.slice h.next 0 0 n none es, (h.new (.row cs 0 0)).2) := by
  obtain ⟨z, h1, h2⟩ := T.z
  have h3 : Nat.beq z.cells.length es = true := by rw [beq_eq]; simp [h2]
  simp only [freshRow, h1, Option.bind_some, h3]
  rfl
theorem Own.append (T : AppT P t e t2 es by_) {h : Heap} {v x : LV} {n m : Nat} {cells new : List LV} (ho : Own h es v n cells) (hx : lenOf? x = some m) (hxc : viewCells h x = some new) (hnew : new.length = m * es)
    (hcell : new.all LV.isCell = true) (hb1 : (n + m) * by_ ≤ maxBytes) (hb2 : n + m ≤ maxBytes) (hlt : ∀ b, v.blk = some b → b < h.next) :
    ∃ v' h', appendE P t t2 v x h = some (v', h') ∧ Own h' es v' (n + m) (cells ++ new) ∧ h.next ≤ h'.next ∧ (∀ b, b < h.next → v.blk ≠ some b → h'.get b = h.get b) ∧
      (∀ b, v'.blk = some b → b < h'.next ∧ (v.blk = some b ∨ h.next ≤ b)) := by
  have ha : appended P e es false x h = some (m, new) := by
    have : Nat.beq new.length (m * es) = true := by rw [beq_eq]; simp [hnew]
    simp only [appended, hx, hxc, Option.bind_some, this]
  have hc : (!Nat.beq es 0 && Nat.ble ((n + m) * by_) maxBytes && Nat.ble (n + m) maxBytes && new.all LV.isCell) = true := by
    have h1 : Nat.beq es 0 = false := by rw [beq_eq]; simp [T.h0]
    have h2 : Nat.ble ((n + m) * by_) maxBytes = true := by rw [ble_eq, decide_eq_true_iff]; exact hb1
    have h3 : Nat.ble (n + m) maxBytes = true := by rw [ble_eq, decide_eq_true_iff]; exact hb2
    rw [h1, h2, h3, hcell]; rfl
  unfold appendE
  simp only [T.hu, T.hs, T.hb, T.hz, ho.lenOf, ha, Option.bind_some, hc]
  cases m with
  | zero =>
    have : new = [] := List.length_eq_zero_iff.1 (by simpa using hnew)
    subst this
    cases ho with
    | nils => exact ⟨_, _, rfl, .nils, Nat.le_refl _, fun _ _ _ => rfl, fun b hb => by cases hb⟩
    | row hb hn hc hcells => exact ⟨_, _, rfl, by rw [List.append_nil]; exact .row hb hn hc hcells, Nat.le_refl _, fun _ _ _ => rfl, fun b hb => ⟨hlt b hb, .inl hb⟩⟩
  | succ m =>
    cases ho with
    | nils =>
      simp only [freshRow_eq T]
      refine ⟨_, _, rfl, ?_, Nat.le_succ _, fun b hb _ => by rw [hget_new, if_neg (by omega)], fun b hb => ?_⟩
      · rw [Nat.zero_add, List.nil_append]; exact Own.fresh new hnew none (fun c e => by cases e)
      · cases hb; exact ⟨Nat.lt_succ_self _, .inr (Nat.le_refl _)⟩
    | @row b g o _ cap cs _ wlo hb hn hc hcells =>
      have hee : Nat.beq es es = true := by rw [beq_eq]; simp
      have hgg : Nat.beq g g = true := by rw [beq_eq]; simp
      have hbn : b < h.next := hlt b rfl
      have hr : readN h b g o (n * es) = some cells := by rw [readN_all hb hn, hcells]
      have put : ∀ (cap : Option Nat), o + (n + (m + 1)) * es ≤ cs.length → (∀ c, cap = some c → n + (m + 1) ≤ c ∧ o + c * es ≤ cs.length) → ∃ v' h', ((writeN h b g (o + n * es) new).map fun h => (LV.slice b g o (n + (m + 1)) cap es, h)) = some (v', h') ∧
          Own h' es v' (n + (m + 1)) (cells ++ new) ∧ h.next ≤ h'.next ∧ (∀ b', b' < h.next → (LV.slice b g o n cap es).blk ≠ some b' → h'.get b' = h.get b') ∧ (∀ b', v'.blk = some b' → b' < h'.next ∧ ((LV.slice b g o n cap es).blk = some b' ∨ h.next ≤ b')) := by
        intro cap hroom hcap
        have e1 : (n + (m + 1)) * es = n * es + new.length := by rw [hnew, Nat.add_mul]
        have hw : Nat.ble (o + n * es + new.length) cs.length = true := by rw [ble_eq, decide_eq_true_iff]; omega
        simp only [writeN, hb, hgg, hw, Bool.and_self, Option.map_some]
        refine ⟨_, _, rfl, .row (by rw [hget_set, if_pos rfl]) ?_ ?_ ?_, Nat.le_refl _, fun b' _ hne => ?_, fun b' e => ⟨by cases e; exact hbn, .inl e⟩⟩
        · rw [splice_len (by omega)]; omega
        · intro c hcc; rw [splice_len (by omega)]; exact hcap c hcc
        · rw [hcells, e1, splice_app hn (by omega) (m := m)]
        · rw [hget_set, if_neg (fun e => hne (by rw [e]; rfl))]
      cases cap with
      | some c =>
        have hc := hc c rfl
        simp only [hee]
        cases hle : Nat.ble (n + (m + 1)) c with
        | true =>
          have hle' : n + (m + 1) ≤ c := by rw [ble_eq, decide_eq_true_iff] at hle; exact hle
          have : (n + (m + 1)) * es ≤ c * es := Nat.mul_le_mul_right _ hle'
          exact put (some c) (by omega) (fun c' e => by cases e; exact ⟨hle', hc.2⟩)
        | false =>
          simp only [hr, Option.bind_some, freshRow_eq T]
          refine ⟨_, _, rfl, ?_, Nat.le_succ _, fun b hb _ => by rw [hget_new, if_neg (by omega)], fun b hb => ?_⟩
          · refine Own.fresh _ ?_ none (fun c e => by cases e)
            have hcl : cells.length = n * es := by rw [hcells]; simp; omega
            rw [List.length_append, hnew, hcl, Nat.add_mul n (m + 1) es]
          · cases hb; exact ⟨Nat.lt_succ_self _, .inr (Nat.le_refl _)⟩
      | none =>
        simp only [hee, hb, hgg, Bool.true_and]
        cases hle : Nat.ble (o + (n + (m + 1)) * es) cs.length with
        | true =>
          rw [ble_eq, decide_eq_true_iff] at hle
          exact put none hle (fun c e => by cases e)
        | false =>
          obtain ⟨z, hz1, hz2⟩ := T.z
          have hz3 : Nat.beq z.cells.length es = true := by rw [beq_eq]; simp [hz2]
          simp only [hr, Option.bind_some, hz1, hz3]
          refine ⟨_, _, rfl, .row (by rw [hget_set, if_pos rfl]) ?_ (fun c e => by cases e) ?_, Nat.le_refl _, fun b' _ hne => by rw [hget_set, if_neg (fun e => hne (by rw [e]; rfl))], fun b' e => ⟨by cases e; exact hbn, .inl e⟩⟩
          · rw [List.length_append, List.length_take, hnew, Nat.add_mul]; omega
          · rw [hcells, List.drop_append_of_le_length (by simp; omega), List.drop_take, show o + n * es - o = n * es by omega, Nat.add_mul, ← hnew]
            refine (List.take_of_length_le ?_).symm
            rw [List.length_append, List.length_take, List.length_drop]; omega
end
end
end Go.Ev

namespace Go.Ev
noncomputable section
set_option linter.unusedSimpArgs false
set_option linter.unusedVariables false
section
variable {P : Program} {ov : Ov} {n : Nat} {ops : Array Oper} {tm tm1 : Tmps} {h h1 : Heap} {rest : List Oper} {v : LV}
/-! ## Operations whose guard was not run itself -/
theorem wanted_undef {d : Option Tmp} {op : Op} {t : TypeId} {p : String} {a : Array Edge} {j : Nat} {w : Bool} {x : Tmp} (hj : (ops[j]?).bind (·.dst) = some x) (hx : tm.get x = LV.undef) : wantedE ops tm ⟨d, op, t, p, a, some (j, w)⟩ = false := by
  unfold wantedE
  simp only [hj, hx]
  rfl
theorem OpsP.undef {Q : Tmps → Heap → Prop} {d : Nat} {op : Op} {t : TypeId} {p : String} {a : Array Edge} {j : Nat} {w : Bool} {x : Tmp} (hj : (ops[j]?).bind (·.dst) = some x) (hx : tm.get x = LV.undef) (hd : Nat.blt d n = true)
    (k : OpsP P ov n ops rest (T.set tm d LV.undef) h Q) : OpsP P ov n ops (⟨some d, op, t, p, a, some (j, w)⟩ :: rest) tm h Q := by
  obtain ⟨tm2, h2, k1, k2⟩ := k
  exact ⟨tm2, h2, fun run => ops_skip (wanted_undef hj hx) (by simp only [putE, hd]) (k1 run), k2⟩
theorem DrP.undef {Q : List Rec → Tmps → Heap → Prop} {i : Nat} {ord : List Nat} {d : Nat} {op : Op} {t : TypeId} {p : String} {a : Array Edge} {j : Nat} {w : Bool} {x : Tmp} (ho : ops[i]? = some ⟨some d, op, t, p, a, some (j, w)⟩)
    (hj : (ops[j]?).bind (·.dst) = some x) (hx : tm.get x = LV.undef) (hd : Nat.blt d n = true) (k : DrP P ov n ops ord (T.set tm d LV.undef) h fun rs => Q (⟨i, tm, h, LV.undef, false⟩ :: rs)) : DrP P ov n ops (i :: ord) tm h Q := by
  have hw : wantedE ops tm ⟨some d, op, t, p, a, some (j, w)⟩ = false := wanted_undef hj hx
  obtain ⟨rs, tm2, h2, k1, k2⟩ := k
  refine ⟨_, tm2, h2, fun run => ?_, k2⟩
  unfold drawRun
  simp only [ho, hw, Option.bind_some, putE, hd, k1 run, Option.map_some]
end
end
end Go.Ev

namespace Go.Ev
noncomputable section
set_option linter.unusedSimpArgs false
set_option linter.unusedVariables false

/-! ## What a function made in the empty memory comes into another one, as a whole -/
def shiftV (d : Nat) : Nat → LV → Option LV
  | 0, _ => none
  | n + 1, v => match v with
    | .ptr b g o => some (.ptr (b + d) g o)
    | .slice b g o len cap es => some (.slice (b + d) g o len cap es)
    | .map b => some (.map (b + d))
    | .agg cs => (cs.mapM (shiftV d n)).map .agg
    | .tuple cs => (cs.mapM (shiftV d n)).map .tuple
    | .iface t u => (shiftV d n u).map (.iface t)
    | .fn f a c => (a.mapM (shiftV d n)).bind fun a => (c.mapM (shiftV d n)).map fun c => .fn f a c
    | .bool _ | .int _ _ | .str _ | .nilp | .nils | .nilm | .nilf | .nili | .anyb => some v
    | .vs _ _ | .vptr _ | .yld _ => none
def shiftE (d : Nat) (e : Entry) : Option Entry := (shiftV d 6 e.key).bind fun k => (shiftV d 6 e.val).map fun v => ⟨k, v, e.born⟩
def shiftO (d : Nat) : HObj → Option HObj
  | .row cs gen wlo => (cs.mapM (shiftV d 6)).map fun cs => .row cs gen wlo
  | .map es clock => (es.mapM (shiftE d)).map fun es => .map es clock
  | .hole => some .hole
  | .iter s pos => some (.iter s pos)
  | .loop _ => none
def adoptN (h h1 : Heap) : Nat → Heap
  | 0 => h
  | n + 1 => match (h1.get n).bind (shiftO h.next) with
    | some o => ⟨(adoptN h h1 n).objs.set (h.next + n) o, (adoptN h h1 n).next + 1⟩
    | none => ⟨(adoptN h h1 n).objs, (adoptN h h1 n).next + 1⟩
def Heap.adopt (h h1 : Heap) : Heap := adoptN h h1 h1.next
theorem adoptN_next (h h1 : Heap) : ∀ n, (adoptN h h1 n).next = h.next + n
  | 0 => rfl
  | n + 1 => by
    unfold adoptN
    split <;> (simp only [adoptN_next h h1 n]; omega)
theorem adoptN_out (h h1 : Heap) : ∀ n b, (b < h.next ∨ h.next + n ≤ b) → (adoptN h h1 n).get b = h.get b
  | 0, _, _ => rfl
  | n + 1, b, hb => by
    have ih := adoptN_out h h1 n b (by omega)
    unfold Heap.get at ih ⊢
    unfold adoptN
    split
    · simp only
      rw [T.get_set_ne _ _ (by omega)]; exact ih
    · exact ih
theorem adoptN_in (h h1 : Heap) (hd : ∀ b o, h.get b = some o → b < h.next) : ∀ n b, b < n → (adoptN h h1 n).get (h.next + b) = (h1.get b).bind (shiftO h.next)
  | 0, _, hb => by omega
  | n + 1, b, hb => by
    by_cases e : b = n
    · subst e
      have ho := adoptN_out h h1 b (h.next + b) (by omega)
      have hn : h.get (h.next + b) = none := by
        cases hg : h.get (h.next + b) with
        | none => rfl
        | some o => have := hd _ _ hg; omega
      unfold Heap.get at ho hn ⊢
      unfold adoptN
      split
      · rename_i o he
        simp only
        rw [T.get_set_same]
        exact he.symm
      · rename_i he
        simp only
        rw [ho, hn]
        exact he.symm
    · have ih := adoptN_in h h1 hd n b (by omega)
      unfold Heap.get at ih ⊢
      unfold adoptN
      split
      · simp only
        rw [T.get_set_ne _ _ (by omega)]; exact ih
      · exact ih
theorem adopt_next (h h1 : Heap) : (h.adopt h1).next = h.next + h1.next := adoptN_next h h1 _
theorem adopt_old (h h1 : Heap) (b : Nat) (hb : b < h.next) : (h.adopt h1).get b = h.get b := adoptN_out h h1 _ b (.inl hb)
theorem adopt_new (h h1 : Heap) (hd : ∀ b o, h.get b = some o → b < h.next) (b : Nat) (hb : b < h1.next) : (h.adopt h1).get (h.next + b) = (h1.get b).bind (shiftO h.next) := adoptN_in h h1 hd _ b hb
theorem adopt_out (h h1 : Heap) (b : Nat) (hb : h.next + h1.next ≤ b) : (h.adopt h1).get b = h.get b := adoptN_out h h1 _ b (.inr hb)

theorem mapM_any {α β : Type} {f : α → Option β} : ∀ {l : List α} {ys : List β}, l.mapM f = some ys → ys.length = l.length ∧ ∀ (i : Nat) (y : β), ys[i]? = some y → ∃ x, l[i]? = some x ∧ f x = some y
  | [], ys, h => by simp at h; subst h; exact ⟨rfl, fun i y hi => by cases hi⟩
  | a :: l, ys, h => by
    simp only [List.mapM_cons, Option.pure_def, Option.bind_eq_bind] at h
    obtain ⟨y, h1, h⟩ := bnd h
    obtain ⟨ys', h2, h⟩ := bnd h
    cases h
    obtain ⟨k1, k2⟩ := mapM_any h2
    refine ⟨by simp [k1], fun i z hi => ?_⟩
    cases i with
    | zero => cases hi; exact ⟨a, rfl, h1⟩
    | succ i => exact k2 i z (by simpa using hi)
theorem shift_rel {γ1 γ' : G} {d : Nat} (hmu : ∀ b g l, γ1.mu b g = some l → γ'.mu (b + d) g = some l) : ∀ (n : Nat) (v v' : LV) (X : Value), shiftV d n v = some v' → RV γ1 v X → RV γ' v' X
  | 0, _, _, _, h, _ => by cases h
  | n + 1, v, v', X, h, hr => by
    have lists : ∀ (cs us : List LV) (xs : Array Value), cs.mapM (shiftV d n) = some us → (∀ (i : Nat) (v : LV) (x : Value), cs[i]? = some v → xs[i]? = some x → RV γ1 v x) →
        us.length = cs.length ∧ ∀ (i : Nat) (v : LV) (x : Value), us[i]? = some v → xs[i]? = some x → RV γ' v x := by
      intro cs us xs hm hh
      obtain ⟨l1, l2⟩ := mapM_get hm
      refine ⟨l1, fun i u x h1 h2 => ?_⟩
      obtain ⟨v0, h5, h6⟩ := l2 i u h1
      exact shift_rel hmu n v0 u x h6 (hh i v0 x h5 h2)
    unfold shiftV at h
    cases hr <;> simp only at h <;> try cases h
    case bool b => exact .bool b
    case int k m => exact .int k m
    case anyb m => exact .anyb m
    case str s bs hh => exact .str s bs hh
    case nilp => exact .nilp
    case ptr b g o l hm hd => exact .ptr (b + d) g o l (hmu _ _ _ hm) hd
    case nils => exact .nils
    case slice b g o len cap es l a rc hm hd hc hn hl hr' ha => exact .slice (b + d) g o len cap es l a rc (hmu _ _ _ hm) hd hc hn hl hr' ha
    case nilm => exact .nilm
    case map b l hm => exact .map (b + d) l (hmu _ _ _ hm)
    case fn f fs cs fa ca hf hc h1 h2 =>
      obtain ⟨us, hu, h⟩ := bnd h
      obtain ⟨us', hu', e⟩ := mp h
      subst e
      obtain ⟨l1, l2⟩ := lists _ _ fa hu h1
      obtain ⟨l3, l4⟩ := lists _ _ ca hu' h2
      exact .fn f us us' fa ca (by omega) (by omega) l2 l4
    case nilf => exact .nilf
    case iface t v x hh =>
      obtain ⟨u', hu, e⟩ := mp h
      subst e
      exact .iface t u' x (shift_rel hmu n v u' x hu hh)
    case nili => exact .nili
    case agg cs xs hs hh =>
      obtain ⟨us, hu, e⟩ := mp h
      subst e
      obtain ⟨l1, l2⟩ := lists _ _ xs hu hh
      exact .agg us xs (by omega) l2
    case tuple cs xs hs hh =>
      obtain ⟨us, hu, e⟩ := mp h
      subst e
      obtain ⟨l1, l2⟩ := lists _ _ xs hu hh
      exact .tuple us xs (by omega) l2
section
variable {P : Program} {γ : G} {h h' : Heap} {w : World}
theorem shift_obj {γ1 γ' : G} {d : Nat} {w1 : World} {b : Nat} {o o' : HObj} (hmu : ∀ b g l, γ1.mu b g = some l → γ'.mu (b + d) g = some l) (hmu' : ∀ g, γ'.mu (b + d) g = γ1.mu b g) (ho : ObjOk γ1 w1 b o) (hs : shiftO d o = some o') : ObjOk γ' w1 (b + d) o' := by
  cases o with
  | hole => cases hs; trivial
  | row cs gen wlo =>
    obtain ⟨us, hu, e⟩ := mp hs
    subst e
    obtain ⟨l1, l2⟩ := mapM_get hu
    intro g l hl
    rw [hmu'] at hl
    obtain ⟨a1, a2, a3, a4, c, e, lo, hi, hc, hz, hf, hv⟩ := ho g l hl
    refine ⟨a1, fun h => by rw [l1]; exact a2 h, a3, a4, c, e, lo, hi, hc, hz, hf, fun i v hi hd hg => ?_⟩
    obtain ⟨v0, h5, h6⟩ := l2 i v hi
    obtain ⟨x, hx, hr⟩ := hv i v0 h5 hd hg
    exact ⟨x, hx, shift_rel hmu 6 v0 v x h6 hr⟩
  | map es clock =>
    obtain ⟨us, hu, e⟩ := mp hs
    subst e
    obtain ⟨l1, l2⟩ := mapM_any hu
    intro g l hl
    rw [hmu'] at hl
    obtain ⟨a1, ms, hm, hz, he⟩ := ho g l hl
    refine ⟨a1, ms, hm, by rw [l1]; exact hz, fun i e m h1 h2 => ?_⟩
    obtain ⟨e0, h5, h6⟩ := l2 i e h1
    obtain ⟨k, hk, h6⟩ := bnd h6
    obtain ⟨v, hv, e'⟩ := mp h6
    subst e'
    obtain ⟨r1, r2, r3⟩ := he i e0 m h5 h2
    exact ⟨shift_rel hmu 6 _ k _ hk r1, shift_rel hmu 6 _ v _ hv r2, r3⟩
  | iter s pos =>
    cases hs
    intro g l hl
    rw [hmu'] at hl
    exact ho g l hl
  | loop r => cases hs
/-- A whole memory comes into this one. -/
theorem adopt_post {γ1 : G} {h1 : Heap} {w1 : World} (s : Sim γ h w) (hp : Post (frozenG w) Heap.empty w γ1 h1 w1) :
    Post γ h w ⟨fun b g => if b < h.next then γ.mu b g else γ1.mu (b - h.next) g, γ.ro⟩ (h.adopt h1) w1 := by
  have hk : ∀ r, r < w.heap.size → w1.heap[r]? = w.heap[r]? := fun r hr => hp.keep r hr (fun b g l k => by cases k)
  have s1 : Sim γ h w1 := s.grow hp.size hk
  have hnew : ∀ b g l, γ1.mu b g = some l → w.heap.size ≤ l.r := fun b g l hm => by
    rcases hp.fresh b g l hm with ⟨_, _, k, _⟩ | k
    · cases k
    · exact k
  have hle : γ.le ⟨fun b g => if b < h.next then γ.mu b g else γ1.mu (b - h.next) g, γ.ro⟩ := ⟨fun b g l e => by simp only; rw [if_pos (s.mud b g l e)]; exact e, fun _ _ _ e => e⟩
  have hmu : ∀ b g l, γ1.mu b g = some l → (⟨fun b g => if b < h.next then γ.mu b g else γ1.mu (b - h.next) g, γ.ro⟩ : G).mu (b + h.next) g = some l := fun b g l e => by
    simp only
    rw [if_neg (by omega), Nat.add_sub_cancel]; exact e
  have cases' : ∀ b g l, (⟨fun b g => if b < h.next then γ.mu b g else γ1.mu (b - h.next) g, γ.ro⟩ : G).mu b g = some l → (b < h.next ∧ γ.mu b g = some l) ∨ (h.next ≤ b ∧ γ1.mu (b - h.next) g = some l) := fun b g l e => by
    simp only at e
    split at e
    · exact .inl ⟨by assumption, e⟩
    · exact .inr ⟨by omega, e⟩
  refine ⟨hle, ⟨?_, ?_, ?_, ?_, ?_, ?_⟩, by rw [adopt_next]; omega, ?_, ?_, hp.size, hp.os, hp.tape, hp.output, fun r hr _ => hk r hr⟩
  · intro b o hb
    rw [adopt_next]
    by_cases e : h.next + h1.next ≤ b
    · rw [adopt_out h h1 b e] at hb; have := s.dom b o hb; omega
    · omega
  · intro b g l hl
    rw [adopt_next]
    rcases cases' b g l hl with ⟨k, _⟩ | ⟨k, k'⟩
    · omega
    · have := hp.sim.mud _ _ _ k'; omega
  · intro b g l hl
    rcases cases' b g l hl with ⟨_, k⟩ | ⟨_, k⟩
    · exact Nat.lt_of_lt_of_le (s.lt b g l k) hp.size
    · exact hp.sim.lt _ _ _ k
  · intro b g l b' g' l' hl hl' e
    rcases cases' b g l hl with ⟨q, k⟩ | ⟨q, k⟩ <;> rcases cases' b' g' l' hl' with ⟨q', k'⟩ | ⟨q', k'⟩
    · exact s.inj _ _ _ _ _ _ k k' e
    · have := s.lt _ _ _ k; have := hnew _ _ _ k'; omega
    · have := s.lt _ _ _ k'; have := hnew _ _ _ k; omega
    · obtain ⟨r1, r2⟩ := hp.sim.inj _ _ _ _ _ _ k k' e
      exact ⟨by omega, r2⟩
  · intro b o hb
    by_cases q : b < h.next
    · rw [adopt_old h h1 b q] at hb
      refine (s1.obj b o hb).of hle (fun g => ?_) fun _ _ _ => rfl
      simp only; rw [if_pos q]
    · by_cases q' : h.next + h1.next ≤ b
      · rw [adopt_out h h1 b q'] at hb; exact absurd (s.dom b o hb) q
      · have e : b = h.next + (b - h.next) := by omega
        rw [e, adopt_new h h1 s.dom (b - h.next) (by omega)] at hb
        obtain ⟨o0, ho0, hsh⟩ := bnd hb
        have := shift_obj (b := b - h.next) (γ' := ⟨fun b g => if b < h.next then γ.mu b g else γ1.mu (b - h.next) g, γ.ro⟩) hmu (fun g => by simp only; rw [if_neg (by omega), Nat.add_sub_cancel]) (hp.sim.obj _ _ ho0) hsh
        rwa [show b - h.next + h.next = b by omega] at this
  · intro r x v hv
    obtain ⟨q1, q2⟩ := s1.ro r x v hv
    refine ⟨q1, fun b g l hl => ?_⟩
    rcases cases' b g l hl with ⟨_, k⟩ | ⟨_, k⟩
    · exact q2 b g l k
    · have := hnew _ _ _ k
      have := blockLt (s.ro r x v hv).1
      omega
  · intro b hb hn
    refine ⟨fun g => ?_, adopt_old h h1 b hb⟩
    simp only; rw [if_pos hb]; exact hn g
  · intro b g l hl
    rcases cases' b g l hl with ⟨_, k⟩ | ⟨_, k⟩
    · exact .inl ⟨g, l, k, rfl⟩
    · exact .inr (hnew _ _ _ k)
/-- A function that is answered by what it makes in the empty memory. -/
abbrev Whole := List LV → Option (LV × Heap)
def wholeCall (F : Whole) : List LV → Heap → Option (LV × Heap) := fun args h => (args.mapM (freezeV h 10)).bind fun vs => (F vs).bind fun p => (shiftV h.next 8 p.1).map fun r => (r, h.adopt p.2)
def WholeOk (P : Program) (ov : Ov) (f : FuncId) (F : Whole) : Prop := ∀ vs r h1, F vs = some (r, h1) → ∃ k, evF P ov k f vs Heap.empty = some (r, h1)
theorem whole_sound (hP : ProgOk P) {ov : Ov} (hov : OvOk P ov) {f : FuncId} {F : Whole} (hF : WholeOk P ov f F) : ∀ args h r h', wholeCall F args h = some (r, h') → ∀ (γ : G) (w : World) (xs : Array Value), Sim γ h w → RVs γ args xs.toList →
    CallArr P f xs w fun X w' => ∃ γ', Post γ h w γ' h' w' ∧ RV γ' r X := by
  intro args h r h' he γ w xs s hx
  unfold wholeCall at he
  obtain ⟨vs, hvs, he⟩ := bnd he
  obtain ⟨⟨r1, h1⟩, hp, he⟩ := bnd he
  obtain ⟨r', hsh, e⟩ := mp he
  cases e
  obtain ⟨k, hev⟩ := hF vs r1 h1 hp
  have hxs : RVs (frozenG w) vs xs.toList := by
    obtain ⟨l1, l2⟩ := mapM_get hvs
    refine ⟨by have := hx.1; omega, fun i v x h3 h4 => ?_⟩
    obtain ⟨v0, h5, h6⟩ := l2 i v h3
    exact freeze_rel s 10 v0 v x h6 (hx.2 i v0 x h5 h4)
  have hsound := evF_sound hP hov k f vs Heap.empty r1 h1 hev (frozenG w) w xs (frozen_sim w) hxs
  have fin : ∀ X w', (∃ γ', Post (frozenG w) Heap.empty w γ' h1 w' ∧ RV γ' r1 X) → ∃ γ', Post γ h w γ' (h.adopt h1) w' ∧ RV γ' r X := by
    rintro X w' ⟨γ1, hp1, hr1⟩
    refine ⟨_, adopt_post s hp1, shift_rel (γ1 := γ1) (d := h.next) (fun b g l e => ?_) 8 r1 r X hsh hr1⟩
    simp only
    rw [if_neg (by omega), Nat.add_sub_cancel]; exact e
  rcases hsound with ⟨X, w', q1, q2⟩ | ⟨q1, q2⟩
  · exact .inl ⟨X, w', q1, fin X w' q2⟩
  · refine .inr ⟨q1, fun cs => ?_⟩
    obtain ⟨v, w', fr, hR, hst⟩ := q2 cs
    exact ⟨v, w', fr, fin v w' hR, hst⟩
def Ov.whole (ov : Ov) (f : FuncId) (F : Whole) : Ov := fun g => match Nat.beq g f with | true => some (wholeCall F) | false => ov g
theorem Ov.whole_ok (hP : ProgOk P) {ov : Ov} (hov : OvOk P ov) {f : FuncId} {F : Whole} (hF : WholeOk P ov f F) : OvOk P (ov.whole f F) := by
  intro g G0 hg
  unfold Ov.whole at hg
  split at hg
  · rename_i e
    rw [beq_eq, decide_eq_true_iff] at e
    subst e
    cases hg
    exact whole_sound hP hov hF
  · exact hov g G0 hg
end
end
end Go.Ev

namespace Go.Ev
noncomputable section
set_option linter.unusedSimpArgs false
set_option linter.unusedVariables false

/-! ## internal/bytealg.MakeNoZero: new bytes that nobody tells -/
theorem digits_get : ∀ (n t : Nat) (acc : Array Value) (i : Nat), (∀ (j : Nat) (x : Value), acc[j]? = some x → ∃ m : Int, x = Value.int .u8 m) → i < acc.size + n → ∃ m : Int, (Extern.BytealgMakeNoZero.digits n t acc)[i]? = some (Value.int .u8 m)
  | 0, _, acc, i, ha, hi => by
    unfold Extern.BytealgMakeNoZero.digits
    have hi' : i < acc.size := by omega
    obtain ⟨m, hm⟩ := ha i acc[i] (by simp [hi'])
    exact ⟨m, by rw [← hm]; simp [hi']⟩
  | n + 1, t, acc, i, ha, hi => by
    unfold Extern.BytealgMakeNoZero.digits
    refine digits_get n _ _ i (fun j x hj => ?_) (by simp; omega)
    rw [Array.getElem?_push] at hj
    split at hj
    · cases hj; exact ⟨_, rfl⟩
    · exact ha j x hj
def rawBytes (args : List LV) (h : Heap) : Option (LV × Heap) :=
  match args with
  | [.int .i64 (.ofNat n)] => match Nat.ble n 281474976710656 with
    | true => some (putNew h (.row (List.replicate n .anyb) 0 0, fun b => .slice b 0 0 n none 1))
    | false => none
  | _ => none

section
variable {P : Program}
theorem run_makeNoZero' (w : World) (ps : Array TypeId) (t e : TypeId) (ht : P.underlying t = some (.slice e)) (n : Nat) (hn : n ≤ 281474976710656) :
    ∃ cs : Array Value, (Extern.BytealgMakeNoZero.makeNoZero ps #[t] #[.int .i64 n]).run P w = .ok (.slice (some ⟨w.heap.size, 0, none⟩) n cs.size) (w.drew.drew.alloc (.cells cs e)) ∧ n ≤ cs.size ∧ ∀ (i : Nat), i < cs.size → ∃ m : Int, cs[i]? = some (.int .u8 m) := by
  have hdef : Extern.BytealgMakeNoZero.makeNoZero ps #[t] #[.int .i64 n] =
      (do
        let .slice elem ← underlying t | stuck "bytealg.MakeNoZero: slice type expected"
        if (n : Int) < 0 || (n : Int) > 2 ^ 48 then runtimePanic (.error "makeslice: len out of range")
        let cap ← choose (.appendCap (n : Int).toNat 0 elem)
        askRoom cap
        let bytes ← choose (.extern "internal/bytealg.MakeNoZero.bytes" 0)
        let a ← newRow elem (Extern.BytealgMakeNoZero.digits cap bytes #[])
        pure (.slice (some a) (n : Int).toNat cap)) := rfl
  refine ⟨Extern.BytealgMakeNoZero.digits (grownCap w n 0 e) ((Question.extern "internal/bytealg.MakeNoZero.bytes" 0).cut (w.tape (w.drawn + 1) (.extern "internal/bytealg.MakeNoZero.bytes" 0))) #[], ?_, ?_, ?_⟩
  · rw [hdef]
    have h1 : ¬ (n : Int) < 0 := by omega
    have h2 : ¬ (281474976710656 : Int) < (n : Int) := by omega
    simp [run_underlying' ht, h1, h2, Question.forced, newRow, Lib.size_digits, grownCap]
  · rw [Lib.size_digits]
    simpa using grownCap_ge w n 0 e
  · intro i hi
    rw [Lib.size_digits] at hi
    exact digits_get _ _ _ _ (fun j x hj => by simp at hj) hi

theorem rawBytes_sound {f : FuncId} {fn : Func} {ps : Array TypeId} {t e : TypeId} (hf : P.funcs[f]? = some fn) (hname : (fn.name == "runtime.NumGoroutine") = false) (hb : fn.body.isNone = true) (hn : Extern.findNext fn = none)
    (he : Extern.find fn = some (Extern.BytealgMakeNoZero.makeNoZero ps #[t])) (ht : P.underlying t = some (.slice e)) :
    ∀ args h r h', rawBytes args h = some (r, h') → ∀ (γ : G) (w : World) (xs : Array Value), Sim γ h w → RVs γ args xs.toList → CallArr P f xs w fun X w' => ∃ γ', Post γ h w γ' h' w' ∧ RV γ' r X := by
  intro args h r h' hr γ w xs s hx
  unfold rawBytes at hr
  split at hr
  · rename_i n
    split at hr
    · rename_i hle
      rw [ble_eq, decide_eq_true_iff] at hle
      have hxs : xs = #[.int .i64 n] := by
        have h0 : xs.size = 1 := by have := hx.1; simpa using this
        have h1 := hx.2 0 (.int .i64 (.ofNat n)) xs[0] rfl (by simp [h0])
        generalize hX : xs[0] = X at h1
        cases h1
        apply Array.ext
        · simp [h0]
        · intro i h2 h3
          have : i = 0 := by omega
          subst this
          simpa using hX
      subst hxs
      obtain ⟨cs, hrun, hlen, hget⟩ := run_makeNoZero' (P := P) w ps t e ht n hle
      have sd := (Post.drew s).trans (Post.drew (Post.drew s).sim)
      have hnew := post_newRow (h := h) sd.sim (List.replicate n .anyb) cs e (by simpa using hlen) fun i v hi => by
        have hin : i < n := by
          rcases Nat.lt_or_ge i n with k | k
          · exact k
          · rw [List.getElem?_eq_none (by simpa using k)] at hi; cases hi
        obtain ⟨m, hm⟩ := hget i (by omega)
        rw [List.getElem?_replicate_of_lt hin] at hi
        cases hi
        exact ⟨_, hm, .anyb m⟩
      simp only [putNew, Option.some.injEq, Prod.mk.injEq] at hr
      obtain ⟨rfl, rfl⟩ := hr
      refine .inl ⟨.slice (some ⟨w.heap.size, 0, none⟩) n cs.size, w.drew.drew.alloc (.cells cs e), ?_, _, sd.trans hnew, ?_⟩
      · rw [run_callFunc_extern hf hname hb hn he]
        show (_ : Result _).andThen _ = _
        rw [hrun]
        rfl
      · exact .slice _ 0 0 n none 1 _ _ cs.size (G.bind_same ..) (Nat.le_refl _) (fun c hc => by cases hc) (fun _ => by simp; omega) hlen (by simp) (fun _ => rfl)
    · cases hr
  · cases hr

/-- The function of that number is this one. -/
def Ov.raw (ov : Ov) (f : FuncId) : Ov := fun g => match Nat.beq g f with | true => some rawBytes | false => ov g
theorem Ov.raw_ok {ov : Ov} (hov : OvOk P ov) {f : FuncId} {fn : Func} {ps : Array TypeId} {t e : TypeId} (hf : P.funcs[f]? = some fn) (hname : (fn.name == "runtime.NumGoroutine") = false) (hb : fn.body.isNone = true) (hn : Extern.findNext fn = none)
    (he : Extern.find fn = some (Extern.BytealgMakeNoZero.makeNoZero ps #[t])) (ht : P.underlying t = some (.slice e)) : OvOk P (ov.raw f) := by
  intro g G0 hg
  unfold Ov.raw at hg
  split at hg
  · rename_i e
    rw [beq_eq, decide_eq_true_iff] at e
    subst e
    cases hg
    exact rawBytes_sound hf hname hb hn he ht
  · exact hov g G0 hg
#print axioms Ov.raw_ok
end
end
end Go.Ev
