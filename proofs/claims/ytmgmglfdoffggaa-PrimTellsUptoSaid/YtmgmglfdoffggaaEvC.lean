/-
  A certified evaluator of the model's programs, third part: slices that are appended to, arguments that can be read, and the step of a law's row; no conditions.
-/
import Derived.Test.YtmgmglfdoffggaaEvB
import Derived.Carry
import Derived.WalkKit
import Derived.ProofKit
import Derived.OpenShut
namespace Go.Ev
set_option linter.unusedSimpArgs false
set_option linter.unusedVariables false

/-! ## Slices that may be appended to -/
def LV.blk : LV → Option Nat
  | .slice b _ _ _ _ _ => some b
  | _ => none
inductive Own (h : Heap) (es : Nat) : LV → Nat → List LV → Prop
  | nils : Own h es .nils 0 []
  | row {b g o n : Nat} {cap : Option Nat} {cs cells : List LV} {wlo : Nat} (hb : h.get b = some (.row cs g wlo)) (hn : o + n * es ≤ cs.length) (hc : ∀ c, cap = some c → n ≤ c ∧ o + c * es ≤ cs.length)
      (hcells : cells = (cs.drop o).take (n * es)) : Own h es (.slice b g o n cap es) n cells
theorem Own.len {h : Heap} {es n : Nat} {v : LV} {cells : List LV} (ho : Own h es v n cells) : cells.length = n * es := by
  cases ho with
  | nils => simp
  | row hb hn hc hcells => subst hcells; simp; omega
theorem Own.lenOf {h : Heap} {es n : Nat} {v : LV} {cells : List LV} (ho : Own h es v n cells) : lenOf? v = some n := by cases ho <;> rfl
theorem readN_all {h : Heap} {b g o n : Nat} {cs : List LV} {wlo : Nat} (hb : h.get b = some (.row cs g wlo)) (hn : o + n ≤ cs.length) : readN h b g o n = some ((cs.drop o).take n) := by
  have h1 : Nat.beq g g = true := by rw [beq_eq]; simp
  have h2 : Nat.ble (o + n) cs.length = true := by rw [ble_eq]; simp [hn]
  simp only [readN, hb, isHi, h1, h2, Bool.and_self]
theorem Own.view {h : Heap} {es n : Nat} {v : LV} {cells : List LV} (ho : Own h es v n cells) : viewCells h v = some cells := by
  cases ho with
  | nils => rfl
  | row hb hn hc hcells => subst hcells; exact readN_all hb hn
/-- What is not touched stays. -/
theorem Own.keep {h h' : Heap} {es n : Nat} {v : LV} {cells : List LV} (ho : Own h es v n cells) (hk : ∀ b, v.blk = some b → h'.get b = h.get b) : Own h' es v n cells := by
  cases ho with
  | nils => exact .nils
  | row hb hn hc hcells => exact .row ((hk _ rfl).trans hb) hn hc hcells
theorem Own.fresh {h : Heap} {es n : Nat} (cs : List LV) (hl : cs.length = n * es) (cap : Option Nat) (hc : ∀ c, cap = some c → c = n) : Own (h.new (.row cs 0 0)).2 es (.slice h.next 0 0 n cap es) n cs := by
  refine .row (by rw [hget_new, if_pos rfl]) (by omega) (fun c e => ?_) ?_
  · rw [hc c e]; exact ⟨Nat.le_refl _, by omega⟩
  · rw [List.drop_zero, List.take_of_length_le (by omega)]
theorem splice_app {cs new : List LV} {o n m : Nat} (hn : o + n ≤ cs.length) (hm : o + n + new.length ≤ cs.length) : ((splice cs (o + n) new).drop o).take (n + new.length) = (cs.drop o).take n ++ new := by
  unfold splice
  have h1 : (cs.take (o + n)).length = o + n := by simp; omega
  rw [List.drop_append_of_le_length (by simp; omega), List.drop_append_of_le_length (by omega), List.drop_take, show o + n - o = n by omega]
  have h2 : ((cs.drop o).take n ++ new).length = n + new.length := by simp; omega
  rw [← h2, List.take_left]
theorem splice_len {cs new : List LV} {o : Nat} (hm : o + new.length ≤ cs.length) : (splice cs o new).length = cs.length := by
  simp [splice]; omega
section
variable {P : Program} {t e : TypeId} {t2 : Option TypeId} {es by_ : Nat}
/-- What an append asks of its types. -/
structure AppT (P : Program) (t e : TypeId) (t2 : Option TypeId) (es by_ : Nat) : Prop where
  hu : P.underlying t = some (.slice e)
  hs : szOf P e = some es
  hb : bytesOfT P e = some by_
  hz : zerosB P t2 = some false
  z : ∃ z, zeroLV P e = some z ∧ z.cells.length = es
  h0 : es ≠ 0
theorem freshRow_eq {P : Program} {t e : TypeId} {t2 : Option TypeId} {es by_ : Nat} (T : AppT P t e t2 es by_) (n : Nat) (cs : List LV) (h : Heap) : freshRow P e es n cs h = some (.slice h.next 0 0 n none es, (h.new (.row cs 0 0)).2) := by
  obtain ⟨z, h1, h2⟩ := T.z
  have h3 : Nat.beq z.cells.length es = true := by rw [beq_eq]; simp [h2]
  simp only [freshRow, h1, Option.bind_some, h3]
  rfl
theorem Own.append (T : AppT P t e t2 es by_) {h : Heap} {v x : LV} {n m : Nat} {cells new : List LV} (ho : Own h es v n cells) (hx : lenOf? x = some m) (hxc : viewCells h x = some new) (hnew : new.length = m * es)
    (hcell : new.all LV.isCell = true) (hb1 : (n + m) * by_ ≤ maxBytes) (hb2 : n + m ≤ maxBytes) (hlt : ∀ b, v.blk = some b → b < h.next) :
    ∃ v' h', appendE P t t2 v x h = some (v', h') ∧ Own h' es v' (n + m) (cells ++ new) ∧ h.next ≤ h'.next ∧ (∀ b, b < h.next → v.blk ≠ some b → h'.get b = h.get b) ∧
      (∀ b, v'.blk = some b → b < h'.next ∧ (v.blk = some b ∨ h.next ≤ b)) := by
  have ha : appended P e es false x h = some (m, new) := by
    have : Nat.beq new.length (m * es) = true := by rw [beq_eq]; simp [hnew]
    simp only [appended, hx, hxc, Option.bind_some, this]
  have hc : (!Nat.beq es 0 && Nat.ble ((n + m) * by_) maxBytes && Nat.ble (n + m) maxBytes && new.all LV.isCell) = true := by
    have h1 : Nat.beq es 0 = false := by rw [beq_eq]; simp [T.h0]
    have h2 : Nat.ble ((n + m) * by_) maxBytes = true := by rw [ble_eq, decide_eq_true_iff]; exact hb1
    have h3 : Nat.ble (n + m) maxBytes = true := by rw [ble_eq, decide_eq_true_iff]; exact hb2
    rw [h1, h2, h3, hcell]; rfl
  unfold appendE
  simp only [T.hu, T.hs, T.hb, T.hz, ho.lenOf, ha, Option.bind_some, hc]
  cases m with
  | zero =>
    have : new = [] := List.length_eq_zero_iff.1 (by simpa using hnew)
    subst this
    cases ho with
    | nils => exact ⟨_, _, rfl, .nils, Nat.le_refl _, fun _ _ _ => rfl, fun b hb => by cases hb⟩
    | row hb hn hc hcells => exact ⟨_, _, rfl, by rw [List.append_nil]; exact .row hb hn hc hcells, Nat.le_refl _, fun _ _ _ => rfl, fun b hb => ⟨hlt b hb, .inl hb⟩⟩
  | succ m =>
    cases ho with
    | nils =>
      simp only [freshRow_eq T]
      refine ⟨_, _, rfl, ?_, Nat.le_succ _, fun b hb _ => by rw [hget_new, if_neg (by omega)], fun b hb => ?_⟩
      · rw [Nat.zero_add, List.nil_append]; exact Own.fresh new hnew none (fun c e => by cases e)
      · cases hb; exact ⟨Nat.lt_succ_self _, .inr (Nat.le_refl _)⟩
    | @row b g o _ cap cs _ wlo hb hn hc hcells =>
      have hee : Nat.beq es es = true := by rw [beq_eq]; simp
      have hgg : Nat.beq g g = true := by rw [beq_eq]; simp
      have hbn : b < h.next := hlt b rfl
      have hr : readN h b g o (n * es) = some cells := by rw [readN_all hb hn, hcells]
      have put : ∀ (cap : Option Nat), o + (n + (m + 1)) * es ≤ cs.length → (∀ c, cap = some c → n + (m + 1) ≤ c ∧ o + c * es ≤ cs.length) → ∃ v' h', ((writeN h b g (o + n * es) new).map fun h => (LV.slice b g o (n + (m + 1)) cap es, h)) = some (v', h') ∧
          Own h' es v' (n + (m + 1)) (cells ++ new) ∧ h.next ≤ h'.next ∧ (∀ b', b' < h.next → (LV.slice b g o n cap es).blk ≠ some b' → h'.get b' = h.get b') ∧ (∀ b', v'.blk = some b' → b' < h'.next ∧ ((LV.slice b g o n cap es).blk = some b' ∨ h.next ≤ b')) := by
        intro cap hroom hcap
        have e1 : (n + (m + 1)) * es = n * es + new.length := by rw [hnew, Nat.add_mul]
        have hw : Nat.ble (o + n * es + new.length) cs.length = true := by rw [ble_eq, decide_eq_true_iff]; omega
        simp only [writeN, hb, hgg, hw, Bool.and_self, Option.map_some]
        refine ⟨_, _, rfl, .row (by rw [hget_set, if_pos rfl]) ?_ ?_ ?_, Nat.le_refl _, fun b' _ hne => ?_, fun b' e => ⟨by cases e; exact hbn, .inl e⟩⟩
        · rw [splice_len (by omega)]; omega
        · intro c hcc; rw [splice_len (by omega)]; exact hcap c hcc
        · rw [hcells, e1, splice_app hn (by omega) (m := m)]
        · rw [hget_set, if_neg (fun e => hne (by rw [e]; rfl))]
      cases cap with
      | some c =>
        have hc := hc c rfl
        simp only [hee]
        cases hle : Nat.ble (n + (m + 1)) c with
        | true =>
          have hle' : n + (m + 1) ≤ c := by rw [ble_eq, decide_eq_true_iff] at hle; exact hle
          have : (n + (m + 1)) * es ≤ c * es := Nat.mul_le_mul_right _ hle'
          exact put (some c) (by omega) (fun c' e => by cases e; exact ⟨hle', hc.2⟩)
        | false =>
          simp only [hr, Option.bind_some, freshRow_eq T]
          refine ⟨_, _, rfl, ?_, Nat.le_succ _, fun b hb _ => by rw [hget_new, if_neg (by omega)], fun b hb => ?_⟩
          · refine Own.fresh _ ?_ none (fun c e => by cases e)
            have hcl : cells.length = n * es := by rw [hcells]; simp; omega
            rw [List.length_append, hnew, hcl, Nat.add_mul n (m + 1) es]
          · cases hb; exact ⟨Nat.lt_succ_self _, .inr (Nat.le_refl _)⟩
      | none =>
        simp only [hee, hb, hgg, Bool.true_and]
        cases hle : Nat.ble (o + (n + (m + 1)) * es) cs.length with
        | true =>
          rw [ble_eq, decide_eq_true_iff] at hle
          exact put none hle (fun c e => by cases e)
        | false =>
          obtain ⟨z, hz1, hz2⟩ := T.z
          have hz3 : Nat.beq z.cells.length es = true := by rw [beq_eq]; simp [hz2]
          simp only [hr, Option.bind_some, hz1, hz3]
          refine ⟨_, _, rfl, .row (by rw [hget_set, if_pos rfl]) ?_ (fun c e => by cases e) ?_, Nat.le_refl _, fun b' _ hne => by rw [hget_set, if_neg (fun e => hne (by rw [e]; rfl))], fun b' e => ⟨by cases e; exact hbn, .inl e⟩⟩
          · rw [List.length_append, List.length_take, hnew, Nat.add_mul]; omega
          · rw [hcells, List.drop_append_of_le_length (by simp; omega), List.drop_take, show o + n * es - o = n * es by omega, Nat.add_mul, ← hnew]
            refine (List.take_of_length_le ?_).symm
            rw [List.length_append, List.length_take, List.length_drop]; omega
end
end Go.Ev

namespace Go.Ev
open Go.ChangeShapes Go.WideShapes Go.ChangeAt Go.RowKit
set_option linter.unusedSimpArgs false
set_option linter.unusedVariables false

/-! ## What an argument that can be read is, to the evaluator -/
/-- Fields that stand one behind the other. -/
def contig (P : Program) : List Field → Nat → Nat → Bool
  | [], o, n => Nat.beq o n
  | f :: fs, o, n => Nat.beq f.offset o && contig P fs (o + P.cellsOf f.type) n
/-- Types that are served. -/
def servedB (P : Program) : Nat → TypeId → Bool
  | 0, _ => false
  | d + 1, t => match P.underlying t with
    | some .bool => Nat.beq (P.cellsOf t) 1
    | some (.int _) => Nat.beq (P.cellsOf t) 1
    | some .string => Nat.beq (P.cellsOf t) 1
    | some (.slice e) => Nat.beq (P.cellsOf t) 1 && servedB P d e
    | some (.struct fs) => contig P fs.toList 0 (P.cellsOf t) && fs.toList.all fun f => servedB P d f.type
    | _ => false
/-- A measure of what is read. -/
structure BulkOk {H : Type} (bulk : DataW H → Nat) : Prop where
  str : ∀ s, s.length ≤ bulk (.lit (.string s))
  len : ∀ es ss, es.length ≤ bulk (.slice es ss)
  elem : ∀ es ss, ∀ e ∈ es, bulk e ≤ bulk (.slice es ss)
  part : ∀ ps, ∀ p ∈ ps, bulk p ≤ bulk (.agg ps)
/-- What stands in the cells. -/
def Shp (P : Program) (B : Nat) : Nat → TypeId → List LV → Prop
  | 0, _, _ => False
  | d + 1, t, us => match P.underlying t with
    | some .bool => ∃ b, us = [.bool b]
    | some (.int k) => ∃ i, us = [.int k i] ∧ (Lit.int k i).wf = true
    | some .string => ∃ s, us = [.str s] ∧ (∀ c ∈ s, c < 256) ∧ s.length ≤ B
    | some (.slice e) => us = [.nils] ∨ ∃ els : List (List LV), us = [.vs els.flatten els.length] ∧ els.length ≤ B ∧ ∀ el ∈ els, el.length = P.cellsOf e ∧ Shp P B d e el
    | some (.struct fs) => us.length = P.cellsOf t ∧ ∀ f ∈ fs.toList, Shp P B d f.type ((us.drop f.offset).take (P.cellsOf f.type))
    | _ => False
section
variable {H : Type} {enc : TypeId × Value → H} {P : Program} {W : World} {base : Nat} {spare : Nat → Bool} {held : Bool}
theorem rvs_of {γ : G} {us : List LV} {cs : List Value} (hl : us.length = cs.length) (h : ∀ (i : Nat) (v : LV) (x : Value), us[i]? = some v → cs[i]? = some x → RV γ v x) : RVs γ us cs := ⟨hl.symm, h⟩
theorem rvs_nil {γ : G} : RVs γ [] [] := ⟨rfl, fun i v x h => by cases h⟩
theorem rvs_cons {γ : G} {u : LV} {us : List LV} {c : Value} {cs : List Value} (h : RV γ u c) (hs : RVs γ us cs) : RVs γ (u :: us) (c :: cs) := by
  refine ⟨by simp [hs.1], fun i v x h1 h2 => ?_⟩
  cases i with
  | zero => cases h1; cases h2; exact h
  | succ i => exact hs.2 i v x h1 h2
theorem rvs_append {γ : G} {us us' : List LV} {cs cs' : List Value} (h : RVs γ us cs) (h' : RVs γ us' cs') : RVs γ (us ++ us') (cs ++ cs') := by
  refine ⟨by simp [h.1, h'.1], fun i v x h1 h2 => ?_⟩
  have hl := h.1
  by_cases hi : i < us.length
  · rw [List.getElem?_append_left hi] at h1
    rw [List.getElem?_append_left (by omega)] at h2
    exact h.2 i v x h1 h2
  · rw [List.getElem?_append_right (by omega)] at h1
    rw [List.getElem?_append_right (by omega)] at h2
    rw [hl] at h2
    exact h'.2 _ v x h1 h2
theorem rvs_one {γ : G} {u : LV} {c : Value} (h : RV γ u c) : RVs γ [u] [c] := rvs_cons h rvs_nil
theorem add_off (a : Addr) (i : Nat) : (a.add i).off = a.off + i := by
  unfold Addr.add
  split
  · rename_i h; omega
  · rfl
theorem list_of {β : Type} {Q : Nat → β → Prop} : ∀ (n : Nat), (∀ i, i < n → ∃ y, Q i y) → ∃ l : List β, l.length = n ∧ ∀ i y, l[i]? = some y → Q i y
  | 0, _ => ⟨[], rfl, fun i y h => by cases h⟩
  | n + 1, h => by
    obtain ⟨l, h1, h2⟩ := list_of n fun i hi => h i (by omega)
    obtain ⟨y, hy⟩ := h n (by omega)
    refine ⟨l ++ [y], by simp [h1], fun i z hz => ?_⟩
    by_cases hi : i < l.length
    · rw [List.getElem?_append_left hi] at hz; exact h2 i z hz
    · rw [List.getElem?_append_right (by omega)] at hz
      have : i = n := by
        have := (List.getElem?_eq_some_iff.1 hz).1
        simp at this; omega
      subst this
      rw [h1, Nat.sub_self] at hz
      cases hz
      exact hy
theorem flat_all {s : Nat} : ∀ (els : List (List LV)) (Q : Nat → LV → Prop), (∀ k el, els[k]? = some el → el.length = s ∧ ∀ j v, el[j]? = some v → Q (k * s + j) v) → ∀ idx v, els.flatten[idx]? = some v → Q idx v
  | [], Q, _, idx, v, h => by simp at h
  | el :: els, Q, hq, idx, v, h => by
    obtain ⟨hl, h0⟩ := hq 0 el rfl
    rw [List.flatten_cons] at h
    by_cases hi : idx < el.length
    · rw [List.getElem?_append_left hi] at h
      have := h0 idx v h
      rwa [Nat.zero_mul, Nat.zero_add] at this
    · rw [List.getElem?_append_right (by omega)] at h
      have := flat_all els (fun k v => Q (k + s) v) (fun k el' hk => by
        obtain ⟨q1, q2⟩ := hq (k + 1) el' (by simpa using hk)
        refine ⟨q1, fun j v hv => ?_⟩
        have := q2 j v hv
        rwa [show (k + 1) * s + j = k * s + j + s by rw [Nat.add_mul]; omega] at this) (idx - el.length) v h
      rwa [show idx - el.length + s = idx by omega] at this
theorem contig_le : ∀ (fs : List Field) (o n : Nat), contig P fs o n = true → o ≤ n
  | [], o, n, h => by unfold contig at h; rw [beq_eq, decide_eq_true_iff] at h; omega
  | f :: fs, o, n, h => by
    unfold contig at h
    rw [Bool.and_eq_true] at h
    have := contig_le fs _ _ h.2
    omega
theorem struct_build {γ : G} {d n B : Nat} {cs : List Value} (hn : cs.length = n) : ∀ (fs : List Field) (o : Nat), contig P fs o n = true → (∀ f ∈ fs, ∃ us, RVs γ us ((cs.drop f.offset).take (P.cellsOf f.type)) ∧ Shp P B d f.type us) →
    ∃ us, RVs γ us (cs.drop o) ∧ ∀ f ∈ fs, o ≤ f.offset ∧ Shp P B d f.type ((us.drop (f.offset - o)).take (P.cellsOf f.type))
  | [], o, h, _ => by
    unfold contig at h
    rw [beq_eq, decide_eq_true_iff] at h
    subst h
    rw [← hn, List.drop_length]
    exact ⟨[], rvs_nil, fun f hf => by cases hf⟩
  | f :: fs, o, h, hf => by
    unfold contig at h
    rw [Bool.and_eq_true, beq_eq, decide_eq_true_iff] at h
    obtain ⟨ho, hc⟩ := h
    have hle := contig_le fs _ _ hc
    obtain ⟨us1, k1, k2⟩ := hf f (List.mem_cons_self ..)
    obtain ⟨us2, k3, k4⟩ := struct_build hn fs _ hc fun g hg => hf g (List.mem_cons_of_mem _ hg)
    rw [ho] at k1
    have hl : us1.length = P.cellsOf f.type := by
      have := k1.1
      simp at this; omega
    refine ⟨us1 ++ us2, ?_, fun g hg => ?_⟩
    · have : cs.drop o = (cs.drop o).take (P.cellsOf f.type) ++ cs.drop (o + P.cellsOf f.type) := by
        rw [← List.drop_drop, List.take_append_drop]
      rw [this]
      exact rvs_append k1 k3
    · rcases List.mem_cons.1 hg with rfl | hg
      · refine ⟨by omega, ?_⟩
        rw [ho, Nat.sub_self, List.drop_zero, ← hl, List.take_left]
        exact k2
      · obtain ⟨q1, q2⟩ := k4 g hg
        refine ⟨by omega, ?_⟩
        rw [List.drop_append, List.drop_eq_nil_of_le (show us1.length ≤ g.offset - o by omega), List.nil_append, show g.offset - o - us1.length = g.offset - (o + P.cellsOf f.type) by omega]
        exact q2
theorem read_rel {bulk : DataW H → Nat} {B : Nat} (hk : BulkOk bulk) : ∀ (d fuel : Nat) (t : TypeId) (cs : List Value) (x : DataW H × List MemPlace), servedB P d t = true → DataW.trod enc P W base spare held fuel t cs = some x → (maxLen ≤ B ∨ bulk x.1 ≤ B) →
    ∃ us : List LV, RVs (frozenG W) us cs ∧ Shp P B d t us
  | 0, _, _, _, _, h, _, _ => by cases h
  | d + 1, fuel, t, cs, x, hs, h, hB => by
    unfold servedB at hs
    unfold Shp
    cases hu : P.underlying t with
    | none => rw [hu] at hs; cases hs
    | some u =>
      rw [hu] at hs
      cases u <;> simp only at hs <;> first | (cases hs; done) | skip
      case bool =>
        obtain ⟨b, rfl, _⟩ := DataW.trod_bool hu h
        exact ⟨_, rvs_one (.bool b), b, rfl⟩
      case int k =>
        obtain ⟨n, rfl, _, hw⟩ := DataW.trod_int hu h
        exact ⟨_, rvs_one (.int k n), n, rfl, hw⟩
      case string =>
        obtain ⟨s, rfl, hx, hw⟩ := DataW.trod_string hu h
        refine ⟨_, rvs_one (.str _ s rfl), _, rfl, ?_, ?_⟩
        · intro c hc
          obtain ⟨b, _, rfl⟩ := List.mem_map.1 hc
          exact b.toNat_lt
        · rw [List.length_map, Array.length_toList]
          rcases hB with hB | hB
          · exact Nat.le_trans hw hB
          · rw [hx] at hB
            have := hk.str s.data.toList
            rw [Array.length_toList] at this
            exact Nat.le_trans this hB
      case slice e =>
        rw [Bool.and_eq_true] at hs
        rcases DataW.trod_slice hu h with ⟨rfl, _⟩ | ⟨a, len, cap, elems, rest, n, he, rfl, hx, hb, hl, hm, hlen, hel, _, _⟩
        · exact ⟨_, rvs_one .nils, .inl rfl⟩
        · have each : ∀ i, i < len → ∃ us : List LV, ∃ cells : List Value, W.cells? base (a.add (i * P.cellsOf e)) (P.cellsOf e) = some cells ∧ RVs (frozenG W) us cells ∧ Shp P B d e us ∧ us.length = P.cellsOf e := by
            intro i hi
            have hBe : maxLen ≤ B ∨ bulk (elems[i]'(by omega)).1 ≤ B := by
              rcases hB with hB | hB
              · exact .inl hB
              · right
                rw [hx] at hB
                exact Nat.le_trans (hk.elem _ _ _ (List.mem_map_of_mem (List.getElem_mem _))) hB
            have h1 := hel i hi
            rw [List.getElem?_eq_getElem (by omega)] at h1
            obtain ⟨cells, h2, h3⟩ := bnd h1
            obtain ⟨us, k1, k2⟩ := read_rel hk d n e cells _ hs.2 h3 hBe
            refine ⟨us, cells, h2, k1, k2, ?_⟩
            have := (World.cells?_some h2).2.1
            rw [← k1.1, this]
          obtain ⟨els, hel1, hel2⟩ := list_of len each
          subst hel1
          have key : ∀ idx v, els.flatten[idx]? = some v → a.spot = none ∧ ∃ y, W.cell? ⟨a.block, a.off + idx, none⟩ = some y ∧ RV (frozenG W) v y := by
            refine flat_all (s := P.cellsOf e) els _ fun k el hk => ?_
            obtain ⟨cells, g1, g2, g3, g4⟩ := hel2 k el hk
            refine ⟨g4, fun j v hv => ?_⟩
            have hj : j < P.cellsOf e := by
              have := (List.getElem?_eq_some_iff.1 hv).1
              omega
            have hk' : k < els.length := (List.getElem?_eq_some_iff.1 hk).1
            have hs0 : a.spot = none := by
              obtain ⟨el0, h0⟩ : ∃ el0, els[0]? = some el0 := ⟨_, List.getElem?_eq_getElem (by omega)⟩
              obtain ⟨cells0, f1, f2, f3, f4⟩ := hel2 0 el0 h0
              have f5 := (World.cells?_some f1).2
              have f6 := f5.2 0 (by omega)
              rw [List.getElem?_eq_getElem (by omega)] at f6
              have := World.cell?_spot f6
              simpa [Addr.add] using this
            refine ⟨hs0, ?_⟩
            have c1 := (World.cells?_some g1).2
            have c2 := c1.2 j hj
            rw [List.getElem?_eq_getElem (show j < cells.length by omega)] at c2
            have c3 : (a.add (k * P.cellsOf e)).add j = ⟨a.block, a.off + (k * P.cellsOf e + j), none⟩ := by
              have e1 := World.cell?_spot c2
              have e2 : ((a.add (k * P.cellsOf e)).add j).block = a.block := by rw [block_add, block_add]
              have e3 : ((a.add (k * P.cellsOf e)).add j).off = a.off + (k * P.cellsOf e + j) := by rw [add_off, add_off]; omega
              generalize (a.add (k * P.cellsOf e)).add j = q at *
              obtain ⟨q1, q2, q3⟩ := q
              simp only at e1 e2 e3
              rw [e1, e2, e3]
            rw [c3] at c2
            exact ⟨_, c2, g2.2 j v _ hv (List.getElem?_eq_getElem _)⟩
          refine ⟨[.vs els.flatten els.length], rvs_one (.vs els.flatten els.length a cap (fun i => (W.cell? ⟨a.block, a.off + i, none⟩).getD (.bool false)) (by omega) (fun i v hv => ?_) (fun i v hv => ?_)), .inr ⟨els, rfl, ?_, fun el hel => ?_⟩⟩
          · obtain ⟨k1, y, k2, k3⟩ := key i v hv
            exact ⟨k1, by show W.cell? _ = _; rw [k2]; rfl⟩
          · obtain ⟨k1, y, k2, k3⟩ := key i v hv
            show RV (frozenG W) v ((W.cell? ⟨a.block, a.off + i, none⟩).getD (.bool false))
            rw [k2]; exact k3
          · rcases hB with hB | hB
            · omega
            · rw [hx] at hB
              have := hk.len (elems.map (·.1)) (rest.map (·.1))
              rw [List.length_map] at this
              have h9 := Nat.le_trans this hB
              omega
          · obtain ⟨k, hk⟩ := List.getElem?_of_mem hel
            obtain ⟨cells, g1, g2, g3, g4⟩ := hel2 k el hk
            exact ⟨g4, g3⟩
      case struct fs =>
        rw [Bool.and_eq_true] at hs
        obtain ⟨xs, n, rfl, hx, hlen, hxs, hf⟩ := DataW.trod_struct hu h
        obtain ⟨us, k1, k2⟩ := struct_build (γ := frozenG W) (d := d) (B := B) hlen fs.toList 0 hs.1 fun f hfm => by
          obtain ⟨i, hi⟩ := List.getElem?_of_mem hfm
          have hi' : fs[i]? = some f := by simpa using hi
          have h1 := hf i f hi'
          have hlt : i < xs.length := by
            rw [hxs]; exact (Array.getElem?_eq_some_iff.1 hi').1
          rw [List.getElem?_eq_getElem hlt] at h1
          refine read_rel hk d n f.type _ _ (List.all_eq_true.1 hs.2 f hfm) h1 ?_
          rcases hB with hB | hB
          · exact .inl hB
          · right
            rw [hx] at hB
            exact Nat.le_trans (hk.part _ _ (List.mem_map_of_mem (List.getElem_mem _))) hB
        rw [List.drop_zero] at k1
        refine ⟨us, k1, by rw [← k1.1, hlen], fun f hf => ?_⟩
        have := (k2 f hf).2
        rwa [Nat.sub_zero] at this
/-- The type of an argument tells whether it is a row of cells. -/
def rowT (P : Program) (t : TypeId) : Bool := match P.underlying t with
  | some (.struct _) | some (.array _ _) => true
  | _ => false
def Arg (P : Program) (B d : Nat) (t : TypeId) (u : LV) : Prop := match rowT P t with
  | true => ∃ us, u = .agg us ∧ Shp P B d t us
  | false => Shp P B d t [u]
/-- An argument. -/
theorem arg_rel {bulk : DataW H → Nat} {B : Nat} (hk : BulkOk bulk) {d : Nat} {t : TypeId} {v : Value} {dt : DataW H} {ps : List MemPlace} {r : Reach} {b0 : Nat} (hs : servedB P d t = true) (hv : Value.okWide P W r b0 t v) (h : DataW.Trod enc P W base spare held t v dt ps) (hB : maxLen ≤ B ∨ bulk dt ≤ B) :
    ∃ u, RV (frozenG W) u v ∧ Arg P B d t u := by
  obtain ⟨fuel, h⟩ := h
  obtain ⟨us, k1, k2⟩ := read_rel hk d fuel t _ _ hs h hB
  unfold Arg rowT
  cases d with
  | zero => cases hs
  | succ d =>
    have hs' := hs
    unfold servedB at hs'
    cases hu : P.underlying t with
    | none => rw [hu] at hs'; cases hs'
    | some u =>
      rw [hu] at hs'
      have one : ∀ v : Value, v.cells = #[v] → RVs (frozenG W) us v.cells.toList → Shp P B (d + 1) t us → ∃ u, RV (frozenG W) u v ∧ Shp P B (d + 1) t [u] := by
        intro v e q1 q2
        rw [e] at q1
        have hl := q1.1
        match us, hl with
        | [u], _ => exact ⟨u, q1.2 0 u v rfl rfl, q2⟩
      cases u <;> simp only at hs' <;> first | (cases hs'; done) | skip
      case bool => obtain ⟨b, rfl⟩ := okWide_bool hu hv; exact one _ rfl k1 k2
      case int k => obtain ⟨b, rfl⟩ := okWide_int hu hv; exact one _ rfl k1 k2
      case string => obtain ⟨b, rfl⟩ := okWide_string hu hv; exact one _ rfl k1 k2
      case slice e => obtain ⟨a, len, cap, rfl⟩ := okWide_slice hu hv; exact one _ rfl k1 k2
      case struct fs =>
        obtain ⟨cs, rfl, _⟩ := okWide_struct hu hv
        refine ⟨.agg us, .agg us cs ?_ ?_, us, rfl, k2⟩
        · simpa [Value.cells] using k1.1
        · intro i v x h1 h2
          exact k1.2 i v x h1 (by simpa [Value.cells] using h2)
def Args (P : Program) (B d : Nat) : List TypeId → List LV → Prop
  | [], [] => True
  | t :: ts, u :: us => Arg P B d t u ∧ Args P B d ts us
  | _, _ => False
theorem args_rel {bulk : DataW H → Nat} {B : Nat} (hk : BulkOk bulk) {d : Nat} {r : Reach} {b0 : Nat} : ∀ (ts : List TypeId) (vs : List Value) (ds : List (DataW H)) (ps : List MemPlace), (ts.all fun t => servedB P d t) = true → (∀ (j : Nat) t v, ts[j]? = some t → vs[j]? = some v → Value.okWide P W r b0 t v) →
    DataW.TrodAll enc P W base spare held ts vs ds ps → (maxLen ≤ B ∨ ∀ d ∈ ds, bulk d ≤ B) → ∃ us, RVs (frozenG W) us vs ∧ Args P B d ts us
  | [], [], [], ps, _, _, _, _ => ⟨[], rvs_nil, trivial⟩
  | t :: ts, v :: vs, d' :: ds, ps, hs, hv, h, hB => by
    obtain ⟨p, q, h1, h2, rfl⟩ := h
    rw [List.all_cons, Bool.and_eq_true] at hs
    obtain ⟨u, k1, k2⟩ := arg_rel hk hs.1 (hv 0 t v rfl rfl) h1 (hB.imp id fun h => h _ (List.mem_cons_self ..))
    obtain ⟨us, k3, k4⟩ := args_rel hk ts vs ds q hs.2 (fun j t v h1 h2 => hv (j + 1) t v h1 h2) h2 (hB.imp id fun h e he => h e (List.mem_cons_of_mem _ he))
    exact ⟨u :: us, rvs_cons k1 k3, k2, k4⟩
  | [], [], _ :: _, _, _, _, h, _ => h.elim
  | [], _ :: _, _, _, _, _, h, _ => h.elim
  | _ :: _, [], _, _, _, _, h, _ => h.elim
  | _ :: _, _ :: _, [], _, _, _, h, _ => h.elim
/-- Arguments read behind the call as they did. -/
theorem below_trodAll (hl : laidOutB P = true) {W' : World} (hb : Below W.heap.size W W') : ∀ (ts : List TypeId) (vs : List Value) (ds : List (DataW H)) (ps : List MemPlace), (ts.all fun t => P.readableRec t && decide (t < P.types.size)) = true →
    DataW.TrodAll enc P W 0 (fun _ => true) true ts vs ds ps → (∀ x ∈ ps, x.block < W.heap.size) → DataW.TrodAll enc P W' 0 (fun b => decide (b < W.heap.size)) true ts vs ds ps
  | [], [], [], ps, _, h, _ => h
  | t :: ts, v :: vs, d' :: ds, ps, hs, h, hlt => by
    obtain ⟨p, q, h1, h2, rfl⟩ := h
    rw [List.all_cons, Bool.and_eq_true, Bool.and_eq_true, decide_eq_true_iff] at hs
    exact ⟨p, q, Below.trod hl hs.1.1 hs.1.2 h1 hb (fun x hx => hlt x (List.mem_append_left _ hx)), below_trodAll hl hb ts vs ds q hs.2 h2 (fun x hx => hlt x (List.mem_append_right _ hx)), rfl⟩
  | [], [], _ :: _, _, _, h, _ => h.elim
  | [], _ :: _, _, _, _, h, _ => h.elim
  | _ :: _, [], _, _, _, h, _ => h.elim
  | _ :: _, _ :: _, [], _, _, h, _ => h.elim
end
end Go.Ev

namespace Go.Ev
open Go.ChangeShapes Go.WideShapes Go.ChangeAt Go.RowKit
set_option linter.unusedSimpArgs false
set_option linter.unusedVariables false
theorem trodAll_len {H : Type} {enc : TypeId × Value → H} {P : Program} {W : World} {base : Nat} {spare : Nat → Bool} {held : Bool} : ∀ (ts : List TypeId) (vs : List Value) (ds : List (DataW H)) (ps : List MemPlace),
    DataW.TrodAll enc P W base spare held ts vs ds ps → ds.length = ts.length
  | [], [], [], _, _ => rfl
  | t :: ts, v :: vs, d :: ds, ps, h => by
    obtain ⟨p, q, _, h2, _⟩ := h
    simp [trodAll_len ts vs ds q h2]
  | [], [], _ :: _, _, h => h.elim
  | [], _ :: _, _, _, h => h.elim
  | _ :: _, [], _, _, h => h.elim
  | _ :: _, _ :: _, [], _, h => h.elim
theorem list1 {α : Type} {l : List α} (h : l.length = 1) : ∃ a, l = [a] := by
  match l, h with
  | [a], _ => exact ⟨a, rfl⟩
theorem list2 {α : Type} {l : List α} (h : l.length = 2) : ∃ a b, l = [a, b] := by
  match l, h with
  | [a, b], _ => exact ⟨a, b, rfl⟩
theorem list3 {α : Type} {l : List α} (h : l.length = 3) : ∃ a b c, l = [a, b, c] := by
  match l, h with
  | [a, b, c], _ => exact ⟨a, b, c, rfl⟩
theorem list4 {α : Type} {l : List α} (h : l.length = 4) : ∃ a b c d, l = [a, b, c, d] := by
  match l, h with
  | [a, b, c, d], _ => exact ⟨a, b, c, d, rfl⟩
theorem list5 {α : Type} {l : List α} (h : l.length = 5) : ∃ a b c d e, l = [a, b, c, d, e] := by
  match l, h with
  | [a, b, c, d, e], _ => exact ⟨a, b, c, d, e, rfl⟩
/-- What a law leaves. -/
theorem law_post {H : Type} {enc : TypeId × Value → H} {P : Program} {f : Func} {s : ChangeSpec} {W W' : World} {args : Array Value} {ds gs : List (DataW H)} {before : List MemPlace} {rt : TypeId}
    (hl : laidOutB P = true) (hpar : (f.params.toList.all fun t => P.readableRec t && decide (t < P.types.size)) = true) (hvars : s.vars = []) (hrt : f.resultTypes = #[rt]) (hb : P.underlying rt = some .bool)
    (hW : DataW.Whole enc P f.params.toList s.vars false W args.toList ds gs before) (hsp : ds.length = f.params.toList.length → s.fn H ds = { results := [.lit (.bool true)], args := ds }) (hbel : Below W.heap.size W W') :
    s.post enc P f false true false false W args (.bool true) W' := by
  have hW' := hW
  obtain ⟨p, q, hA, hV, rfl, _, _⟩ := hW
  rw [hvars] at hV
  obtain ⟨rfl, rfl⟩ := trodVars_none hV
  have hs := hsp (trodAll_len _ _ _ _ hA)
  have hlt : ∀ x ∈ p, x.block < W.heap.size := fun x hx => by simpa using hW'.lt x (by simp [hx])
  refine ⟨ds, [], p ++ [], [], p, [], hW', ?_, ?_, ?_, hbel.frame _, fun h => by cases h⟩
  · rw [List.append_nil, hs, hrt]
    exact trodAll_mk1 (shut_bool hb _)
  · rw [List.append_nil, hs]
    exact below_trodAll hl hbel _ _ _ _ hpar hA hlt
  · rw [List.append_nil, hs, hvars]
    exact rfl
/-- The step of a law's row. -/
theorem law_step {H : Type} {enc : TypeId × Value → H} {P : Program} (hP : ProgOk P) {ov : Ov} (hov : OvOk P ov) {fi : FuncId} {f : Func} (hfn : P.funcs[fi]? = some f) (hbody : f.body.isSome) {s : ChangeSpec} {rt : TypeId} {d B : Nat} {bulk : DataW H → Nat} (hbk : BulkOk bulk)
    (hl : laidOutB P = true) (hpar : (f.params.toList.all fun t => P.readableRec t && decide (t < P.types.size)) = true) (hser : (f.params.toList.all fun t => servedB P d t) = true) (hvars : s.vars = []) (hrt : f.resultTypes = #[rt]) (hb : P.underlying rt = some .bool)
    {W : World} {base : Nat} {args : Array Value} {ds gs : List (DataW H)} {before : List MemPlace}
    (law : ∀ us, Args P B d f.params.toList us → ∃ k h1, evF P ov k fi us Heap.empty = some (.bool true, h1))
    (hval : ∀ (j : Nat) t v, f.params[j]? = some t → args[j]? = some v → Value.okWide P W .any base t v)
    (hW : DataW.Whole enc P f.params.toList s.vars false W args.toList ds gs before) (hB : maxLen ≤ B ∨ ∀ d ∈ ds, bulk d ≤ B) (hsp : ds.length = f.params.toList.length → s.fn H ds = { results := [.lit (.bool true)], args := ds }) :
    Calls P fi args W fun e W' => ∃ v, e = .returned v ∧ s.post enc P f false true false false W args v W' := by
  have hW0 := hW
  obtain ⟨p, q, hA, hV, rfl, _, _⟩ := hW
  obtain ⟨us, k1, k2⟩ := args_rel hbk f.params.toList args.toList ds p hser (fun j t v h1 h2 => hval j t v (by simpa using h1) (by simpa using h2)) hA hB
  obtain ⟨k, h1, hev⟩ := law us k2
  refine (law_calls hP hov hfn hbody hev k1).mono fun e W' ⟨he, hbel⟩ => ?_
  subst he
  exact ⟨_, rfl, law_post hl hpar hvars hrt hb hW0 hsp hbel⟩
end Go.Ev

namespace Go.Ev
set_option linter.unusedSimpArgs false
set_option linter.unusedVariables false
section
variable {P : Program} {ov : Ov} {n : Nat} {ops : Array Oper} {tm tm1 : Tmps} {h h1 : Heap} {rest : List Oper} {v : LV}
/-! ## Operations whose guard was not run itself -/
theorem wanted_undef {d : Option Tmp} {op : Op} {t : TypeId} {p : String} {a : Array Edge} {j : Nat} {w : Bool} {x : Tmp} (hj : (ops[j]?).bind (·.dst) = some x) (hx : tm.get x = LV.undef) : wantedE ops tm ⟨d, op, t, p, a, some (j, w)⟩ = false := by
  unfold wantedE
  simp only [hj, hx]
  rfl
theorem OpsP.undef {Q : Tmps → Heap → Prop} {d : Nat} {op : Op} {t : TypeId} {p : String} {a : Array Edge} {j : Nat} {w : Bool} {x : Tmp} (hj : (ops[j]?).bind (·.dst) = some x) (hx : tm.get x = LV.undef) (hd : Nat.blt d n = true)
    (k : OpsP P ov n ops rest (T.set tm d LV.undef) h Q) : OpsP P ov n ops (⟨some d, op, t, p, a, some (j, w)⟩ :: rest) tm h Q := by
  obtain ⟨tm2, h2, k1, k2⟩ := k
  exact ⟨tm2, h2, fun run => ops_skip (wanted_undef hj hx) (by simp only [putE, hd]) (k1 run), k2⟩
theorem DrP.undef {Q : List Rec → Tmps → Heap → Prop} {i : Nat} {ord : List Nat} {d : Nat} {op : Op} {t : TypeId} {p : String} {a : Array Edge} {j : Nat} {w : Bool} {x : Tmp} (ho : ops[i]? = some ⟨some d, op, t, p, a, some (j, w)⟩)
    (hj : (ops[j]?).bind (·.dst) = some x) (hx : tm.get x = LV.undef) (hd : Nat.blt d n = true) (k : DrP P ov n ops ord (T.set tm d LV.undef) h fun rs => Q (⟨i, tm, h, LV.undef, false⟩ :: rs)) : DrP P ov n ops (i :: ord) tm h Q := by
  have hw : wantedE ops tm ⟨some d, op, t, p, a, some (j, w)⟩ = false := wanted_undef hj hx
  obtain ⟨rs, tm2, h2, k1, k2⟩ := k
  refine ⟨_, tm2, h2, fun run => ?_, k2⟩
  unfold drawRun
  simp only [ho, hw, Option.bind_some, putE, hd, k1 run, Option.map_some]
end
end Go.Ev
