/-
  A certified evaluator of the model's programs, second part: maps, calls, ranges over functions, drawn regions, functions answered by value, laws, and the rules by which a text is walked; no conditions.
-/
import Derived.Test.YteoipmlnnlfccaaGreatEvA
import Derived.RangeFuncRecord
import Derived.Below
import Derived.WalkKit
import Derived.ProofKit
import Derived.OpenShut
namespace Go.Ev
set_option linter.unusedSimpArgs false
set_option linter.unusedVariables false
section
variable {P : Program} {γ : G} {h h' : Heap} {w : World}

theorem cap_res {t ty : TypeId} {argTypes : Array TypeId} {x v : LV} {X : Value} (hl : capE P t x = some v) (h0 : argTypes[0]? = some t) (hX : RV γ x X) : PureRes P γ w (Builtin.cap_ argTypes ty #[X]) v := by
  unfold capE at hl
  split at hl
  · rename_i e b g o n c es hu
    cases hl
    cases hX with
    | slice _ _ _ _ _ _ l a rc hm hd hc _ _ _ _ =>
      have := hc c rfl
      subst this
      exact ⟨goInt rc, by simp [Builtin.cap_, h0, underlying, hu], .int _ _⟩
  · rename_i e hu
    cases hl
    cases hX
    exact ⟨goInt 0, by simp [Builtin.cap_, h0, underlying, hu], .int _ _⟩
  · cases hl

theorem minmaxFrom_res (isMax : Bool) (f : Value → Value → Sem Value) (hf : ∀ k x k' y, f (.int k x) (.int k' y) = pure (.int k (pickMM isMax x y))) :
    ∀ (rest : List LV) (k : IntKind) (x : Int) (v : LV) (Xs : List Value), minmaxFrom isMax k x rest = some v → RVs γ rest Xs → PureRes P γ w (Xs.foldlM f (.int k x)) v
  | [], k, x, v, Xs, h, hv => by
    have : Xs = [] := by have := hv.1; simpa using this
    subst this
    simp only [minmaxFrom] at h
    cases h
    exact ⟨_, rfl, .int _ _⟩
  | y :: rest, k, x, v, Xs, h, hv => by
    unfold minmaxFrom at h
    split at h
    · rename_i e; cases e
    · rename_i k' n r e
      cases e
      cases Xs with
      | nil => have := hv.1; simp at this
      | cons B Rest =>
        have hB := RV_int (hv.2 0 _ B rfl rfl)
        subst hB
        have hrest : RVs γ rest Rest := ⟨by have := hv.1; simpa using this, fun i u U h1 h2 => hv.2 (i + 1) u U (by simpa using h1) (by simpa using h2)⟩
        have := minmaxFrom_res isMax f hf rest k _ v Rest h hrest
        simpa [List.foldlM_cons, hf] using this
    · cases h
theorem min_res {vs : List LV} {v : LV} {Xs : Array Value} (argTypes : Array TypeId) (ty : TypeId) (h : minmaxE false vs = some v) (hv : RVs γ vs Xs.toList) : PureRes P γ w (Builtin.min_ argTypes ty Xs) v := by
  unfold minmaxE at h
  split at h
  · rename_i k x rest
    cases hX : Xs.toList with
    | nil => rw [hX] at hv; have := hv.1; simp at this
    | cons A Rest =>
      rw [hX] at hv
      have hA := RV_int (hv.2 0 _ A rfl rfl)
      subst hA
      have hrest : RVs γ rest Rest := ⟨by have := hv.1; simpa using this, fun i u U h1 h2 => hv.2 (i + 1) u U (by simpa using h1) (by simpa using h2)⟩
      have := minmaxFrom_res (P := P) (w := w) false Builtin.min2 (fun k x k' y => by
        simp only [Builtin.min2, pickMM, ilt_eq]; by_cases hc : y < x <;> simp [hc]) rest k x v Rest h hrest
      unfold Builtin.min_
      rw [hX]
      exact this
  · cases h
theorem max_res {vs : List LV} {v : LV} {Xs : Array Value} (argTypes : Array TypeId) (ty : TypeId) (h : minmaxE true vs = some v) (hv : RVs γ vs Xs.toList) : PureRes P γ w (Builtin.max_ argTypes ty Xs) v := by
  unfold minmaxE at h
  split at h
  · rename_i k x rest
    cases hX : Xs.toList with
    | nil => rw [hX] at hv; have := hv.1; simp at this
    | cons A Rest =>
      rw [hX] at hv
      have hA := RV_int (hv.2 0 _ A rfl rfl)
      subst hA
      have hrest : RVs γ rest Rest := ⟨by have := hv.1; simpa using this, fun i u U h1 h2 => hv.2 (i + 1) u U (by simpa using h1) (by simpa using h2)⟩
      have := minmaxFrom_res (P := P) (w := w) true Builtin.max2 (fun k x k' y => by
        simp only [Builtin.max2, pickMM, ilt_eq, gt_iff_lt]; by_cases hc : x < y <;> simp [hc]) rest k x v Rest h hrest
      unfold Builtin.max_
      rw [hX]
      exact this
  · cases h

/-! keys -/
theorem keyOk_res : ∀ (d : Nat) (t : TypeId) (v : LV) (X : Value) (emp : Bool) (D : Nat), keyOk P d t v = true → d ≤ D → RV γ v X → (Instr.checkKey emp D t X).run P w = .ok () w
  | 0, t, v, X, emp, D, h, _, _ => by simp [keyOk] at h
  | d + 1, t, v, X, emp, D, h, hD, hX => by
    obtain ⟨D, rfl⟩ : ∃ m, D = m + 1 := ⟨D - 1, by omega⟩
    have ih := keyOk_res d
    unfold keyOk at h
    unfold Instr.checkKey
    split at h
    · rename_i k hu
      simp only [Sem.run_bind, run_underlying' hu, Result.andThen_ok]
      rfl
    · rename_i hu
      simp only [Sem.run_bind, run_underlying' hu, Result.andThen_ok]
      rfl
    · rename_i hu
      simp only [Sem.run_bind, run_underlying' hu, Result.andThen_ok]
      rfl
    · rename_i fields cs hu
      cases hX with
      | agg _ Xs hs hv =>
        simp only [Sem.run_bind, run_underlying' hu, Result.andThen_ok]
        rw [← Array.forIn_toList]
        have hr := RVs_of_agg (RV.agg cs Xs hs hv)
        have key : ∀ fs : List Field, (fs.all fun f => f.name ≠ "_" && (match partAt P f.type cs f.offset with | some u => keyOk P d f.type u | none => false)) = true →
            ((forIn fs PUnit.unit fun f _ => (if f.name ≠ "_" then do
                let x ← part f.type Xs f.offset
                Instr.checkKey emp D f.type x
                pure (ForInStep.yield PUnit.unit)
              else pure (ForInStep.yield PUnit.unit)) : Sem PUnit)).run P w = .ok () w := by
          intro fs
          induction fs with
          | nil => intro _; rfl
          | cons f fs ihf =>
            intro hall
            rw [List.all_cons, Bool.and_eq_true, Bool.and_eq_true] at hall
            obtain ⟨⟨hn, hp⟩, hrest⟩ := hall
            cases hpp : partAt P f.type cs f.offset with
            | none => rw [hpp] at hp; cases hp
            | some u =>
              rw [hpp] at hp
              obtain ⟨U, hU, hUr⟩ := part_res (w := w) hr hpp
              simp only [List.forIn_cons, Sem.run_bind]
              rw [if_pos (by simpa using hn)]
              simp only [Sem.run_bind, hU, Result.andThen_ok, ih _ _ _ emp D hp (by omega) hUr, Sem.run_pure]
              exact ihf hrest
        have hk := key _ h
        simp at hk ⊢
        rw [hk]
        rfl
    · cases h
end
end Go.Ev

namespace Go.Ev
set_option linter.unusedSimpArgs false
set_option linter.unusedVariables false
section
variable {P : Program} {γ : G} {h h' : Heap} {w : World}

theorem flatEq_eq : ∀ (d : Nat) (x y : LV), flatEq d x y = true → x = y
  | 0, x, y, h => by simp [flatEq] at h
  | d + 1, x, y, h => by
    unfold flatEq at h
    split at h
    · simp at h; rw [h]
    · rename_i k a k' b
      rw [Bool.and_eq_true, decide_eq_true_iff, ieq_eq] at h
      obtain ⟨rfl, h2⟩ := h
      have : a = b := by simpa using h2
      rw [this]
    · rename_i a b
      have key : ∀ (a b : List Nat), listBeq a b = true → a = b := by
        intro a
        induction a with
        | nil => intro b hb; cases b with | nil => rfl | cons _ _ => simp [listBeq] at hb
        | cons x a ih =>
          intro b hb
          cases b with
          | nil => simp [listBeq] at hb
          | cons y b =>
            simp only [listBeq] at hb
            split at hb
            · rename_i hxy
              rw [beq_eq, decide_eq_true_iff] at hxy
              rw [hxy, ih b hb]
            · cases hb
      rw [key a b h]
    · rename_i xs ys
      rw [Bool.and_eq_true, beq_eq, decide_eq_true_iff] at h
      obtain ⟨hl, ha⟩ := h
      congr 1
      apply List.ext_getElem hl
      intro i h1 h2
      rw [List.all_eq_true] at ha
      refine flatEq_eq d _ _ (ha (xs[i], ys[i]) ?_)
      rw [List.mem_iff_getElem]
      exact ⟨i, by simp; omega, by simp⟩
    · cases h

/-- What a search finds, there and here. -/
def FoundOk (γ : G) : Option (Nat × LV) → Option (Nat × Value) → Prop
  | none, none => True
  | some (i, v), some (j, V) => i = j ∧ RV γ v V
  | _, _ => False
def EntriesOk (γ : G) (es : List Entry) (ms : List MapEntry) : Prop := ms.length = es.length ∧ ∀ (i : Nat) e m, es[i]? = some e → ms[i]? = some m → EntryOk γ e m
theorem EntriesOk.tail {e : Entry} {es : List Entry} {m : MapEntry} {ms : List MapEntry} (h : EntriesOk γ (e :: es) (m :: ms)) : EntryOk γ e m ∧ EntriesOk γ es ms :=
  ⟨h.2 0 e m rfl rfl, by have := h.1; simpa using this, fun i a b h1 h2 => h.2 (i + 1) a b (by simpa using h1) (by simpa using h2)⟩

theorem RV_int_inv {k : IntKind} {n : Int} {v : LV} (h : RV γ v (.int k n)) (hv : v ≠ .anyb) : v = .int k n := by
  generalize hX : Value.int k n = X at h
  cases h <;> cases hX
  · rfl
  · exact absurd rfl hv
theorem RV_bool_inv {b : Bool} {v : LV} (h : RV γ v (.bool b)) : v = .bool b := by
  generalize hX : Value.bool b = X at h
  cases h <;> cases hX
  rfl
theorem RV_str_inv {b : ByteArray} {v : LV} (h : RV γ v (.string b)) : v = .str (natsOf b) := by
  generalize hX : Value.string b = X at h
  cases h <;> cases hX
  rename_i s hs
  rw [← hs]; rfl
theorem sameNow_eq {d : TypeDesc} {kt : TypeId} {k e : LV} {K E : Value} {b b' : Bool} (hu : P.underlying kt = some d) (he : eqIn P 20 kt k e = some b) (hK : RV γ k K) (hE : RV γ e E) (hs : Instr.sameNow d K E = some b') : b' = b := by
  have hk1 : k ≠ .anyb := by rintro rfl; rw [eqIn_anyb] at he; cases he
  have hk2 : e ≠ .anyb := by rintro rfl; rw [eqIn_anyb2] at he; cases he
  rw [show (20 : Nat) = 19 + 1 from rfl] at he
  unfold eqIn at he
  rw [hu] at he
  unfold Instr.sameNow at hs
  split at hs
  · have h1 := RV_int_inv hK hk1
    have h2 := RV_int_inv hE hk2
    subst h1 h2
    simp only at he
    split at hs
    · rename_i hkk
      rw [if_pos hkk] at he
      cases hs
      cases he
      rw [ieq_eq]
    · cases hs
  · have h1 := RV_str_inv hK
    have h2 := RV_str_inv hE
    subst h1 h2
    simp only at he
    cases hs
    cases he
    rw [natsOf, natsOf, listBeq_eq, beq_toListBytes, ByteArray.toList_eq, ByteArray.toList_eq]
  · have h1 := RV_bool_inv hK
    have h2 := RV_bool_inv hE
    subst h1 h2
    simp only at he
    cases hs
    cases he
    rfl
  · cases hs

theorem keyEq_res {kt : TypeId} {d : TypeDesc} {k : LV} {K : Value} (hu : P.underlying kt = some d) (hK : RV γ k K) : ∀ (es : List Entry) (ms : List MapEntry) (i : Nat) (r : Option (Nat × LV)), keyEq P kt k es i = some r → EntriesOk γ es ms →
    ∃ R, (Instr.findAsking kt K ms i).run P w = .ok R w ∧ FoundOk γ r R ∧ (Instr.findNow d K ms i = none ∨ Instr.findNow d K ms i = some R)
  | [], ms, i, r, h, hm => by
    have : ms = [] := by have := hm.1; simpa using this
    subst this
    simp only [keyEq] at h
    cases h
    exact ⟨none, rfl, trivial, .inr rfl⟩
  | e :: es, ms, i, r, h, hm => by
    cases ms with
    | nil => have := hm.1; simp at this
    | cons m ms =>
      obtain ⟨⟨hk, hv, hb⟩, htl⟩ := hm.tail
      unfold keyEq at h
      cases he : eqIn P 20 kt k e.key with
      | none => rw [he] at h; cases h
      | some b =>
        rw [he] at h
        simp only [Option.bind_some] at h
        have hq : (Op.equal kt K m.key).run P w = .ok b w := eqIn_res 20 kt k e.key b he Op.maxDepth K m.key (by decide) hK hk
        have hnow : ∀ b', Instr.sameNow d K m.key = some b' → b' = b := fun b' hs => sameNow_eq hu he hK hk hs
        cases b with
        | true =>
          cases h
          refine ⟨some (i, m.val), ?_, ⟨rfl, hv⟩, ?_⟩
          · unfold Instr.findAsking
            simp [hq]
          · unfold Instr.findNow
            cases hsn : Instr.sameNow d K m.key with
            | none => exact .inl rfl
            | some b' => rw [hnow b' hsn]; exact .inr rfl
        | false =>
          obtain ⟨R, h1, h2, h3⟩ := keyEq_res hu hK es ms (i + 1) r h htl
          refine ⟨R, ?_, h2, ?_⟩
          · unfold Instr.findAsking
            simp [hq, h1]
          · unfold Instr.findNow
            cases hsn : Instr.sameNow d K m.key with
            | none => exact .inl rfl
            | some b' => rw [hnow b' hsn]; exact h3

theorem findKey_res {kt : TypeId} {d : TypeDesc} {k : LV} {K : Value} (hu : P.underlying kt = some d) (hK : RV γ k K) {es : List Entry} {ms : List MapEntry} {r : Option (Nat × LV)} (h : keyEq P kt k es 0 = some r) (hm : EntriesOk γ es ms) :
    ∃ R, (Instr.findKey kt K ms).run P w = .ok R w ∧ FoundOk γ r R := by
  obtain ⟨R, h1, h2, h3⟩ := keyEq_res (w := w) hu hK es ms 0 r h hm
  refine ⟨R, ?_, h2⟩
  unfold Instr.findKey
  simp only [Sem.run_bind, run_underlying' hu, Result.andThen_ok]
  rcases h3 with h3 | h3
  · rw [h3]; exact h1
  · rw [h3]; rfl

theorem keyOk_under {d : Nat} {t : TypeId} {v : LV} (h : keyOk P d t v = true) : ∃ u, P.underlying t = some u := by
  cases d with
  | zero => simp [keyOk] at h
  | succ d =>
    unfold keyOk at h
    cases hu : P.underlying t with
    | none => rw [hu] at h; cases v <;> simp at h
    | some u => exact ⟨u, rfl⟩

/-- The entries of a map's value. -/
inductive MapVal (w : World) : Value → Array MapEntry → Prop
  | nil : MapVal w (.map none) #[]
  | some (r : Nat) (ms : Array MapEntry) (clock : Nat) (h : w.heap[r]? = some (.map ms clock)) : MapVal w (.map (some r)) ms

theorem lookup_run {t kt et : TypeId} {M K U : Value} {ok is : Bool} {ms : Array MapEntry} {R : Option (Nat × Value)} (hu : P.underlying t = some (.map kt et)) (hM : MapVal w M ms) (hck : (Instr.checkKey ms.isEmpty 10000 kt K).run P w = .ok () w)
    (hR : (Instr.findKey kt K ms.toList).run P w = .ok R w) (hz : (∃ i, R = some (i, U) ∧ is = true) ∨ (R = none ∧ is = false ∧ (zeroValue et).run P w = .ok U w)) :
    (Instr.lookup t M K ok).run P w = .ok (if ok = true then .tuple #[U, .bool is] else U) w := by
  unfold Instr.lookup
  simp only [Sem.run_bind, run_underlying' hu, Result.andThen_ok]
  cases hM with
  | nil =>
    simp only [pure_bind, Sem.run_bind, hck, Result.andThen_ok, hR]
    rcases hz with ⟨i, rfl, rfl⟩ | ⟨rfl, rfl, hz⟩
    · simp
    · simp [hz]
  | some r _ clock hh =>
    simp only [Sem.run_bind, getObj, Sem.run, hh, Result.andThen_ok, pure_bind, hck, hR]
    rcases hz with ⟨i, rfl, rfl⟩ | ⟨rfl, rfl, hz⟩
    · simp [hck, hR]
    · simp [hck, hR, hz]

theorem okVal {ok is : Bool} {u v : LV} {U : Value} (hU : RV γ u U) (hv : (match ok with | true => LV.tuple [u, .bool is] | false => u) = v) : RV γ v (if ok = true then .tuple #[U, .bool is] else U) := by
  cases ok with
  | true =>
    rw [← hv]
    refine .tuple _ _ rfl fun i a b h1 h2 => ?_
    exact (RVs_cons hU (RVs_cons (RV.bool is) RVs_nil)).2 i a b h1 (by simpa using h2)
  | false => rw [← hv]; exact hU
theorem lookup_fin {t kt et : TypeId} {k v : LV} {M K : Value} {ok : Bool} {es : List Entry} {ms : Array MapEntry} (hu : P.underlying t = some (.map kt et)) (hkey : keyOk P 5 kt k = true) (hes : EntriesOk γ es ms.toList)
    (hv : ((keyEq P kt k es 0).bind fun r => (match r with | some (_, v) => some (v, true) | none => (zeroLV P et).map fun z => (z, false)).map fun (v, is) => match ok with | true => LV.tuple [v, .bool is] | false => v) = some v)
    (hM : MapVal w M ms) (hK : RV γ k K) : PureRes P γ w (Instr.lookup t M K ok) v := by
  obtain ⟨ku, hku⟩ := keyOk_under hkey
  cases hq : keyEq P kt k es 0 with
  | none => rw [hq] at hv; cases hv
  | some r =>
    rw [hq] at hv
    simp only [Option.bind_some] at hv
    obtain ⟨R, hR, hF⟩ := findKey_res (w := w) hku hK hq hes
    have hck := keyOk_res (w := w) 5 kt k K ms.isEmpty 10000 hkey (by decide) hK
    cases r with
    | none =>
      cases R with
      | some _ => exact hF.elim
      | none =>
        cases hz : zeroLV P et with
        | none => rw [hz] at hv; cases hv
        | some z =>
          rw [hz] at hv
          obtain ⟨Z, hZ, hZr⟩ := zeroLV_rel (γ := γ) (w := w) hz
          exact ⟨_, lookup_run hu hM hck hR (.inr ⟨rfl, rfl, hZ⟩), okVal hZr (by cases ok <;> simpa using hv)⟩
    | some iv =>
      obtain ⟨i, u⟩ := iv
      cases R with
      | none => exact hF.elim
      | some jv =>
        obtain ⟨j, U⟩ := jv
        exact ⟨_, lookup_run hu hM hck hR (.inl ⟨j, rfl, rfl⟩), okVal hF.2 (by cases ok <;> simpa using hv)⟩

theorem lookup_res (s : Sim γ h w) {t : TypeId} {m k v : LV} {M K : Value} {ok : Bool} (hl : lookupE P t m k ok h = some v) (hM : RV γ m M) (hK : RV γ k K) : PureRes P γ w (Instr.lookup t M K ok) v := by
  unfold lookupE at hl
  split at hl
  case h_2 => cases hl
  rename_i kt et hu
  split at hl
  · cases hl
  rename_i hkey
  cases hM <;> first | (cases hl; done) | skip
  case nilm =>
    simp only [Option.bind_some] at hl
    exact lookup_fin hu hkey ⟨rfl, fun i e m h1 _ => by simp at h1⟩ hl .nil hK
  case map b l hm =>
    simp only at hl
    split at hl
    · rename_i es clock hb
      simp only [Option.bind_some] at hl
      obtain ⟨_, ms, h1, h2, h3⟩ := s.obj b _ hb 0 l hm
      exact lookup_fin hu hkey ⟨by simpa using h2, fun i e m a1 a2 => h3 i e m a1 (by simpa using a2)⟩ hl (.some _ _ _ h1) hK
    · cases hl
end
end Go.Ev

namespace Go.Ev
set_option linter.unusedSimpArgs false
set_option linter.unusedVariables false
section
variable {P : Program} {γ : G} {h h' : Heap} {w : World}

def setO (w : World) (r : Nat) (o : Obj) : World := { w with heap := w.heap.setIfInBounds r o }
theorem run_setObj_map {r : Nat} {ms : Array MapEntry} {clock : Nat} {o : Obj} (hh : w.heap[r]? = some (.map ms clock)) : (setObj r o).run P w = .ok () (setO w r o) := by
  simp only [setObj, Sem.run, hh]
  rfl
theorem heap_setO_same {r : Nat} {o : Obj} (h : r < w.heap.size) : (setO w r o).heap[r]? = some o := by
  simp [setO, h]
theorem heap_setO_other {r k : Nat} {o : Obj} (h : k ≠ r) : (setO w r o).heap[k]? = w.heap[k]? := by
  simp only [setO, Array.getElem?_setIfInBounds]
  rw [if_neg (by omega)]

theorem post_setMap (s : Sim γ h w) {b : Nat} {es es' : List Entry} {clock clock' : Nat} {l : Loc} {ms' : Array MapEntry} (hb : h.get b = some (.map es clock)) (hm : γ.mu b 0 = some l) (he : EntriesOk γ es' ms'.toList) :
    Post γ h w γ (h.set b (.map es' clock')) (setO w l.r (.map ms' clock')) := by
  have hlt := s.lt b 0 l hm
  refine .upd s b _ _ 0 l hb hm (by simp [setO]) rfl rfl rfl (fun r hr hn => heap_setO_other fun e => hn 0 l hm e.symm) ?_
  intro g l' hl'
  obtain ⟨hg, _⟩ := s.obj b _ hb g l' hl'
  subst hg
  rw [hm] at hl'
  cases hl'
  exact ⟨rfl, ms', heap_setO_same hlt, by have := he.1; simpa using this, fun i e m h1 h2 => he.2 i e m h1 (by simpa using h2)⟩

theorem map_obj (s : Sim γ h w) {b : Nat} {es : List Entry} {clock : Nat} {l : Loc} (hb : h.get b = some (.map es clock)) (hm : γ.mu b 0 = some l) : ∃ ms : Array MapEntry, w.heap[l.r]? = some (.map ms clock) ∧ EntriesOk γ es ms.toList := by
  obtain ⟨_, ms, h1, h2, h3⟩ := s.obj b _ hb 0 l hm
  exact ⟨ms, h1, by simpa using h2, fun i e m a1 a2 => h3 i e m a1 (by simpa using a2)⟩

theorem modifyAt_length (f : Entry → Entry) : ∀ (n : Nat) (es : List Entry), (modifyAt f n es).length = es.length
  | _, [] => by cases ‹Nat› <;> rfl
  | 0, _ :: _ => rfl
  | n + 1, _ :: es => by simp [modifyAt, modifyAt_length f n es]
theorem modifyAt_get (f : Entry → Entry) : ∀ (n : Nat) (es : List Entry) (i : Nat), (modifyAt f n es)[i]? = if n = i then (es[i]?).map f else es[i]?
  | n, [], i => by cases n <;> simp [modifyAt]
  | 0, e :: es, i => by cases i <;> simp [modifyAt]
  | n + 1, e :: es, 0 => by simp [modifyAt]
  | n + 1, e :: es, i + 1 => by simp [modifyAt, modifyAt_get f n es i]

theorem entries_modify {es : List Entry} {ms : Array MapEntry} (he : EntriesOk γ es ms.toList) (f : Entry → Entry) (F : MapEntry → MapEntry) (i : Nat) (hf : ∀ e m, es[i]? = some e → ms[i]? = some m → EntryOk γ (f e) (F m)) : EntriesOk γ (modifyAt f i es) (ms.modify i F).toList := by
  refine ⟨by rw [modifyAt_length]; have := he.1; simpa using this, fun j e m h1 h2 => ?_⟩
  rw [modifyAt_get] at h1
  rw [Array.getElem?_toList, Array.getElem?_modify] at h2
  by_cases hij : i = j
  · subst hij
    rw [if_pos rfl] at h1 h2
    cases hx : es[i]? with
    | none => rw [hx] at h1; cases h1
    | some e0 =>
      rw [hx] at h1
      cases h1
      cases hy : ms[i]? with
      | none => rw [hy] at h2; cases h2
      | some m0 => rw [hy] at h2; cases h2; exact hf _ _ hx hy
  · rw [if_neg hij] at h1 h2
    exact he.2 j e m h1 (by simpa using h2)

theorem entries_push {es : List Entry} {ms : Array MapEntry} (he : EntriesOk γ es ms.toList) {e : Entry} {m : MapEntry} (hem : EntryOk γ e m) : EntriesOk γ (es ++ [e]) (ms.push m).toList := by
  have hl : ms.toList.length = es.length := he.1
  refine ⟨by simp at hl ⊢; exact hl, fun j a b h1 h2 => ?_⟩
  rw [Array.toList_push] at h2
  by_cases hj : j < es.length
  · rw [List.getElem?_append_left hj] at h1
    rw [List.getElem?_append_left (by omega)] at h2
    exact he.2 j a b h1 h2
  · rw [List.getElem?_append_right (by omega)] at h1
    rw [List.getElem?_append_right (by omega), hl] at h2
    cases hk : j - es.length with
    | zero => rw [hk] at h1 h2; simp at h1 h2; subst h1 h2; exact hem
    | succ n => rw [hk] at h1; simp at h1

theorem found_get {kt : TypeId} {k : LV} : ∀ (es : List Entry) (i j : Nat) (v : LV), keyEq P kt k es i = some (some (j, v)) → i ≤ j ∧ ∃ e, es[j - i]? = some e ∧ e.val = v
  | [], i, j, v, h => by simp [keyEq] at h
  | e :: es, i, j, v, h => by
    unfold keyEq at h
    cases he : eqIn P 20 kt k e.key with
    | none => rw [he] at h; cases h
    | some b =>
      rw [he] at h
      simp only [Option.bind_some] at h
      cases b with
      | true => cases h; exact ⟨Nat.le_refl _, e, by simp, rfl⟩
      | false =>
        obtain ⟨h1, e', h2, h3⟩ := found_get es (i + 1) j v h
        refine ⟨by omega, e', ?_, h3⟩
        rw [show j - i = (j - (i + 1)) + 1 by omega]
        simpa using h2

theorem run_keyStays (K0 K : Value) : ∃ (K' : Value) (d : Bool), (K' = K0 ∨ K' = K) ∧ (Instr.keyThatStays K0 K).run P w = .ok K' (if d then w.drew else w) := by
  unfold Instr.keyThatStays
  by_cases hb : Instr.sameBits 10000 K0 K = true
  · exact ⟨K, false, .inr rfl, by rw [if_pos hb]; rfl⟩
  · rw [if_neg hb]
    by_cases hc : (Question.extern "map.whichKeyStays" 2).cut (w.tape w.drawn (.extern "map.whichKeyStays" 2)) = 0
    · exact ⟨K, true, .inr rfl, by simp [choose, Sem.run, Question.forced, hc]⟩
    · exact ⟨K0, true, .inl rfl, by simp [choose, Sem.run, Question.forced, hc]⟩

theorem mapUpdate_res (s : Sim γ h w) {t : TypeId} {m k v : LV} {M K V : Value} (hl : mapUpdateE P t m k v h = some h') (hM : RV γ m M) (hK : RV γ k K) (hV : RV γ v V) : ∃ w', (Instr.mapUpdate t M K V).run P w = .ok () w' ∧ Post γ h w γ h' w' := by
  unfold mapUpdateE at hl
  split at hl
  case h_2 => cases hl
  rename_i kt et hu
  split at hl
  case h_2 => cases hl
  rename_i b hkey
  obtain ⟨ku, hku⟩ := keyOk_under hkey
  split at hl
  case h_2 => cases hl
  rename_i es clock hb
  cases hM with
  | map _ l hm =>
  obtain ⟨ms, h1, h2⟩ := map_obj s hb hm
  have hck := keyOk_res (w := w) 5 kt k K false 10000 hkey (by decide) hK
  cases hq : keyEq P kt k es 0 with
  | none => rw [hq] at hl; cases hl
  | some r =>
  rw [hq] at hl
  simp only [Option.bind_some] at hl
  obtain ⟨R, hR, hF⟩ := findKey_res (w := w) hku hK hq h2
  have hg : ∀ (K0 : Value → Sem Unit), True := fun _ => trivial
  cases r with
  | none =>
    cases R with
    | some _ => exact hF.elim
    | none =>
    simp only at hl
    cases hl
    refine ⟨_, ?_, post_setMap s hb hm (entries_push h2 (e := ⟨k, v, clock⟩) (m := { key := K, val := V, born := clock }) ⟨hK, hV, rfl⟩)⟩
    unfold Instr.mapUpdate
    simp only [Sem.run_bind, run_underlying' hu, Result.andThen_ok, getObj, Sem.run, h1, hck, hR]
    exact run_setObj_map h1
  | some iv =>
    obtain ⟨i, u⟩ := iv
    cases R with
    | none => exact hF.elim
    | some jv =>
    obtain ⟨j, U⟩ := jv
    obtain ⟨rfl, hU⟩ := hF
    simp only at hl
    split at hl
    case h_2 => cases hl
    rename_i hany
    cases hl
    obtain ⟨_, e, hei, _⟩ := found_get es 0 i u hq
    simp only [Nat.sub_zero] at hei
    rw [hei] at hany
    have hkk : e.key = k := flatEq_eq 5 _ _ (by simpa using hany)
    have hil : i < ms.size := by
      have := h2.1
      have hlt : i < es.length := by
        rcases Nat.lt_or_ge i es.length with q | q
        · exact q
        · rw [List.getElem?_eq_none q] at hei; cases hei
      simp at this; omega
    have hem := h2.2 i e ms[i] hei (by simp [hil])
    obtain ⟨K', d, hK', hrun⟩ := run_keyStays (P := P) (w := w) ms[i].key K
    have hK'r : RV γ k K' := by
      rcases hK' with rfl | rfl
      · rw [← hkk]; exact hem.1
      · exact hK
    have s' : Sim γ h (if d then w.drew else w) := by cases d; exact s; exact (Post.drew s).sim
    have p' : Post γ h w γ h (if d then w.drew else w) := by cases d; exact .refl s; exact .drew s
    have hh' : (if d then w.drew else w).heap[l.r]? = some (.map ms clock) := by cases d <;> exact h1
    refine ⟨setO (if d then w.drew else w) l.r (.map (ms.modify i fun e => { e with key := K', val := V }) clock), ?_, p'.trans (post_setMap s' hb hm (entries_modify h2 _ _ i fun e0 m0 q1 q2 => ?_))⟩
    · unfold Instr.mapUpdate
      simp only [Sem.run_bind, run_underlying' hu, Result.andThen_ok, getObj, Sem.run, h1, hck, hR]
      have hget : ((ms[i]?).map (·.key)).getD K = ms[i].key := by simp [hil]
      rw [hget, hrun]
      simp only [Result.andThen_ok]
      exact run_setObj_map hh'
    · rw [hei] at q1
      cases q1
      have : m0 = ms[i] := by rw [Array.getElem?_eq_getElem hil] at q2; exact (Option.some.inj q2).symm
      subst this
      exact ⟨by rw [hkk]; exact hK'r, hV, hem.2.2⟩

theorem mapEntry_res (s : Sim γ h w) {t : TypeId} {m k v : LV} {M K : Value} (hl : mapEntryE P t m k h = some (v, h')) (hM : RV γ m M) (hK : RV γ k K) : OpRes P γ h w (Instr.mapEntry t M K) v h' := by
  unfold mapEntryE at hl
  split at hl
  case h_2 => cases hl
  rename_i kt et hu
  split at hl
  case h_2 => cases hl
  rename_i b hkey
  obtain ⟨ku, hku⟩ := keyOk_under hkey
  split at hl
  case h_2 => cases hl
  rename_i es clock hb
  cases hM with
  | map _ l hm =>
  obtain ⟨ms, h1, h2⟩ := map_obj s hb hm
  have hck := keyOk_res (w := w) 5 kt k K false 10000 hkey (by decide) hK
  cases hq : keyEq P kt k es 0 with
  | none => rw [hq] at hl; cases hl
  | some r =>
  rw [hq] at hl
  simp only [Option.bind_some] at hl
  obtain ⟨R, hR, hF⟩ := findKey_res (w := w) hku hK hq h2
  have pair : ∀ {γ' : G} {u : LV} {U : Value} {n : Nat}, RV γ' u U → RV γ' (.tuple [u, .int .i64 (.ofNat n)]) (.tuple #[U, goInt n]) := fun {γ' u U n} hU =>
    .tuple _ _ rfl fun i a b q1 q2 => (RVs_cons hU (RVs_cons (RV.int .i64 (.ofNat n)) RVs_nil)).2 i a b q1 (by simpa [goInt] using q2)
  cases r with
  | none =>
    cases R with
    | some _ => exact hF.elim
    | none =>
    simp only at hl
    cases hz : zeroLV P et with
    | none => rw [hz] at hl; cases hl
    | some z =>
    rw [hz] at hl
    cases hl
    obtain ⟨Z, hZ, hZr⟩ := zeroLV_rel (γ := γ) (w := w) hz
    refine ⟨γ, _, .tuple #[Z, goInt clock], ?_, post_setMap s hb hm (entries_push h2 (e := ⟨k, z, clock⟩) (m := { key := K, val := Z, born := clock }) ⟨hK, hZr, rfl⟩), pair hZr⟩
    unfold Instr.mapEntry
    simp only [Sem.run_bind, run_underlying' hu, Result.andThen_ok, getObj, Sem.run, h1, hck, hR, hZ, run_setObj_map h1, Sem.run_pure]
  | some iv =>
    obtain ⟨i, u⟩ := iv
    cases R with
    | none => exact hF.elim
    | some jv =>
    obtain ⟨j, U⟩ := jv
    obtain ⟨rfl, hU⟩ := hF
    simp only at hl
    split at hl
    case h_2 => cases hl
    rename_i hany
    cases hl
    obtain ⟨_, e, hei, _⟩ := found_get es 0 i u hq
    simp only [Nat.sub_zero] at hei
    rw [hei] at hany
    have hkk : e.key = k := flatEq_eq 5 _ _ (by simpa using hany)
    have hil : i < ms.size := by
      have := h2.1
      have hlt : i < es.length := by
        rcases Nat.lt_or_ge i es.length with q | q
        · exact q
        · rw [List.getElem?_eq_none q] at hei; cases hei
      simp at this; omega
    have hem := h2.2 i e ms[i] hei (by simp [hil])
    obtain ⟨K', d, hK', hrun⟩ := run_keyStays (P := P) (w := w) ms[i].key K
    have hK'r : RV γ k K' := by
      rcases hK' with rfl | rfl
      · rw [← hkk]; exact hem.1
      · exact hK
    have s' : Sim γ h (if d then w.drew else w) := by cases d; exact s; exact (Post.drew s).sim
    have p' : Post γ h w γ h (if d then w.drew else w) := by cases d; exact .refl s; exact .drew s
    have hh' : (if d then w.drew else w).heap[l.r]? = some (.map ms clock) := by cases d <;> exact h1
    have hmod : modifyAt (fun e => e) i es = es := by
      apply List.ext_getElem?
      intro n
      rw [modifyAt_get]
      split
      · simp
      · rfl
    have hpost := post_setMap s' hb hm (clock' := clock) (ms' := ms.modify i fun e => { e with key := K' }) (es' := modifyAt (fun e => e) i es) (entries_modify h2 _ _ i fun e0 m0 q1 q2 => by
      rw [hei] at q1
      cases q1
      have : m0 = ms[i] := by rw [Array.getElem?_eq_getElem hil] at q2; exact (Option.some.inj q2).symm
      subst this
      exact ⟨by rw [hkk]; exact hK'r, hem.2.1, hem.2.2⟩)
    rw [hmod] at hpost
    have hbe : ms[i].born = e.born := hem.2.2
    refine ⟨γ, setO (if d then w.drew else w) l.r (.map (ms.modify i fun e => { e with key := K' }) clock), .tuple #[U, goInt e.born], ?_, p'.trans hpost, ?_⟩
    · unfold Instr.mapEntry
      simp only [Sem.run_bind, run_underlying' hu, Result.andThen_ok, getObj, Sem.run, h1, hck, hR]
      have hget : ((ms[i]?).map (·.key)).getD K = ms[i].key := by simp [hil]
      rw [hget, hrun]
      simp only [Result.andThen_ok, run_setObj_map hh', Sem.run_pure]
      simp [hil, hbe]
    · have e1 : ((es[i]?).map (·.born)).getD 0 = e.born := by simp [hei]
      rw [e1]
      exact pair hU

theorem bornAt_spec (n : Nat) : ∀ (es : List Entry) (i j : Nat), bornAt n es i = some j → i ≤ j ∧ j - i < es.length ∧ (∃ e, es[j - i]? = some e ∧ e.born = n) ∧ ∀ k, k < j - i → ∀ e, es[k]? = some e → e.born ≠ n
  | [], i, j, h => by simp [bornAt] at h
  | e :: es, i, j, h => by
    unfold bornAt at h
    split at h
    · rename_i he
      rw [beq_eq, decide_eq_true_iff] at he
      cases h
      exact ⟨Nat.le_refl _, by simp, ⟨e, by simp, he⟩, fun k hk => by omega⟩
    · rename_i he
      rw [beq_eq, decide_eq_false_iff_not] at he
      obtain ⟨h1, h2, ⟨e', h3, h4⟩, h5⟩ := bornAt_spec n es (i + 1) j h
      have e1 : j - i = (j - (i + 1)) + 1 := by omega
      refine ⟨by omega, by simp; omega, ⟨e', by rw [e1]; simpa using h3, h4⟩, fun k hk e0 hk0 => ?_⟩
      cases k with
      | zero => simp at hk0; subst hk0; exact he
      | succ k => exact h5 k (by omega) e0 (by simpa using hk0)

theorem entryStore_res (s : Sim γ h w) {t : TypeId} {m st v : LV} {M S V : Value} (hl : entryStoreE m st v h = some h') (hM : RV γ m M) (hS : RV γ st S) (hV : RV γ v V) : ∃ w', (Instr.entryStore t M S V).run P w = .ok () w' ∧ Post γ h w γ h' w' := by
  unfold entryStoreE at hl
  cases hn : asNat? st with
  | none => rw [hn] at hl; cases hl
  | some n =>
  rw [hn] at hl
  simp only [Option.bind_some] at hl
  obtain ⟨k, rfl⟩ := asNat_int hn
  have hSe := RV_int hS
  subst hSe
  split at hl
  case h_2 => cases hl
  rename_i b
  split at hl
  case h_2 => cases hl
  rename_i es clock hb
  cases hM with
  | map _ l hm =>
  obtain ⟨ms, h1, h2⟩ := map_obj s hb hm
  cases hbo : bornAt n es 0 with
  | none => rw [hbo] at hl; cases hl
  | some i =>
  rw [hbo] at hl
  cases hl
  obtain ⟨_, q2, ⟨e, q3, q4⟩, q5⟩ := bornAt_spec n es 0 i hbo
  simp only [Nat.sub_zero] at q2 q3 q5
  have hlen : ms.size = es.length := by have := h2.1; simpa using this
  have hil : i < ms.size := by omega
  have hborn : ∀ (j : Nat) (hj : j < ms.size), ∃ e', es[j]? = some e' ∧ ms[j].born = e'.born := by
    intro j hj
    have hje : j < es.length := by omega
    refine ⟨es[j], by simp [hje], (h2.2 j es[j] ms[j] (by simp [hje]) (by simp [hj])).2.2⟩
  have hfind : ms.findIdx? (fun e => (e.born : Int) == Int.ofNat n) = some i := by
    rw [Array.findIdx?_eq_some_iff_getElem]
    refine ⟨hil, ?_, fun j hj => ?_⟩
    · obtain ⟨e', a1, a2⟩ := hborn i hil
      rw [q3] at a1
      cases a1
      simp [a2, q4]
    · obtain ⟨e', a1, a2⟩ := hborn j (by omega)
      have := q5 j hj e' a1
      simp [a2]
      omega
  have hem := h2.2 i e ms[i] q3 (by simp [hil])
  refine ⟨_, ?_, post_setMap s hb hm (ms' := ms.modify i fun e => { e with val := V }) (entries_modify h2 _ _ i fun e0 m0 a1 a2 => ?_)⟩
  · unfold Instr.entryStore
    simp only [Sem.run_bind, getObj, Sem.run, h1, Result.andThen_ok, asInt, asIntOf, pure_bind, Sem.run_pure, hfind]
    exact run_setObj_map h1
  · have := h2.2 i e0 m0 a1 (by simpa using a2)
    exact ⟨this.1, hV, this.2.2⟩
end
end Go.Ev

namespace Go.Ev
set_option linter.unusedSimpArgs false
set_option linter.unusedVariables false

/-- What stays of a frame: its function, its kind, the round that it is. -/
structure Base where
  fn : FuncId
  kind : CallKind
  round : Option Nat
def Base.at (b : Base) (a : Act) (todo : List Item) : Frame := { fn := b.fn, tmps := a.tmps, todo, defers := a.defers, mode := .run, kind := b.kind, roundOf := b.round }

section
variable {P : Program} {b : Base} {a : Act} {k : List Item} {cs : List Frame} {w w' : World}

theorem Base.eval_at (b : Base) (a : Act) (todo : List Item) (x : Operand) : (b.at a todo).eval x = a.eval x := by cases x <;> rfl
theorem Base.eval_at' (b : Base) (a : Act) (todo : List Item) : (b.at a todo).eval = a.eval := funext (Base.eval_at b a todo)
theorem Base.finish_at (b : Base) (a : Act) (ops : Array Oper) (i : Nat) (rest : List Nat) (k : List Item) (v : Value) :
    (b.at a (.inRegion ops (i :: rest) :: k)).finish v = b.at (a.put ((ops[i]?).bind (·.dst)) v) (.inRegion ops rest :: k) := by
  cases h : (ops[i]?).bind (·.dst) <;> simp [Frame.finish, Base.at, Act.put, h]

theorem stepR_skip : step P (lone (b.at a (.code .skip :: k)) cs w) = .next (lone (b.at a k) cs w) := step_lone_go (by simp [stepG, stepG.exec, Base.at])
theorem stepR_label {l : Nat} : step P (lone (b.at a (.code (.label l) :: k)) cs w) = .next (lone (b.at a k) cs w) := step_lone_go (by simp [stepG, stepG.exec, Base.at])
theorem stepR_inBlock {id : Nat} : step P (lone (b.at a (.inBlock id :: k)) cs w) = .next (lone (b.at a k) cs w) := step_lone_go (by simp [stepG, stepG.exec, Base.at])
theorem stepR_inScope {c : Code} : step P (lone (b.at a (.inScope c :: k)) cs w) = .next (lone (b.at a k) cs w) := step_lone_go (by simp [stepG, stepG.exec, Base.at])
theorem stepR_seq {x y : Code} : step P (lone (b.at a (.code (.seq x y) :: k)) cs w) = .next (lone (b.at a (.code x :: .code y :: k)) cs w) := step_lone_go (by simp [stepG, stepG.exec, Base.at])
theorem stepR_cond {c : Operand} {x y : Code} {t : Bool} (h : a.eval c = .bool t) : step P (lone (b.at a (.code (.cond c x y) :: k)) cs w) = .next (lone (b.at a (.code (if t then x else y) :: k)) cs w) :=
  step_lone_go (by
    have := Base.eval_at b a (.code (.cond c x y) :: k) c
    simp only [Base.at] at this
    simp [stepG, stepG.exec, Base.at, this, h])
theorem stepR_block {id : Nat} {c : Code} : step P (lone (b.at a (.code (.block id c) :: k)) cs w) = .next (lone (b.at a (.code c :: .inBlock id :: k)) cs w) := step_lone_go (by simp [stepG, stepG.exec, Base.at])
theorem stepR_scope {c : Code} : step P (lone (b.at a (.code (.scope c) :: k)) cs w) = .next (lone (b.at a (.code c :: .inScope c :: k)) cs w) := step_lone_go (by simp [stepG, stepG.exec, Base.at])
theorem stepR_loop {c : Code} : step P (lone (b.at a (.code (.loop c) :: k)) cs w) = .next (lone (b.at a (.code c :: .inLoop c :: k)) cs w) := step_lone_go (by simp [stepG, stepG.exec, Base.at])
theorem stepR_inLoop {c : Code} : step P (lone (b.at a (.inLoop c :: k)) cs w) = .next (lone (b.at a (.code c :: .inLoop c :: k)) cs w) := step_lone_go (by simp [stepG, stepG.exec, Base.at])
theorem stepR_exit {id : Nat} {k' : List Item} (h : exitTo id k = some k') : step P (lone (b.at a (.code (.exit id) :: k)) cs w) = .next (lone (b.at a k') cs w) := step_lone_go (by simp [stepG, stepG.exec, Base.at, h])
theorem stepR_ret (hb : b.round = none) : step P (lone (b.at a (.code .ret :: k)) cs w) = .next (lone { b.at a (.code .ret :: k) with mode := .returning } cs w) := step_lone_go (by simp [stepG, stepG.exec, Base.at, hb])
theorem stepR_end (hb : b.round = none) : step P (lone (b.at a []) cs w) = .next (lone { b.at a [] with mode := .returning } cs w) := step_lone_go (by simp [stepG, stepG.exec, Base.at, hb])

variable {ops : Array Oper}
theorem stepR_region {id : Nat} : step P (lone (b.at a (.code (.region id ops false) :: k)) cs w) = .next (lone (b.at a (.inRegion ops (List.range ops.size) :: k)) cs w) := step_lone_go (by simp [stepG, stepG.exec, Base.at])
theorem stepR_region_draw {id : Nat} :
    step P (lone (b.at a (.code (.region id ops true) :: k)) cs w) =
      .next (lone (b.at a (.inRegion ops (Region.schedule (P.follows .mixedOrders) ops (w.tape w.drawn (.order b.fn id))) :: k)) cs w.drew) :=
  step_lone_go (by simp [stepG, stepG.exec, Base.at, choose, Sem.run, Question.forced, Question.cut])
theorem stepR_region_end : step P (lone (b.at a (.inRegion ops [] :: k)) cs w) = .next (lone (b.at a k) cs w) := step_lone_go (by simp [stepG, stepG.exec, Base.at])
theorem stepR_op_skip {i : Nat} {rest : List Nat} (h : ((ops[i]?).map (Region.wanted · (yielded ops a.tmps))).getD false = false) :
    step P (lone (b.at a (.inRegion ops (i :: rest) :: k)) cs w) = .next (lone (b.at (a.put ((ops[i]?).bind (·.dst)) undef) (.inRegion ops rest :: k)) cs w) := by
  rw [← Base.finish_at]
  exact step_lone_go (by
    have h' := h
    simp only [Base.at] at *
    simp [stepG, stepG.exec, h'])
theorem stepG_opR {i : Nat} {rest : List Nat} {o : Oper} (ho : ops[i]? = some o) (hw : Region.wanted o (yielded ops a.tmps) = true) (hd : ∀ c, o.op ≠ .defer c) :
    stepG P true { frame := b.at a (.inRegion ops (i :: rest) :: k), callers := cs, status := .running, dying := none } w =
      stepG.apply P true (b.at a (.inRegion ops (i :: rest) :: k)) cs none (execOp a.eval o) w := by
  have he := Base.eval_at' b a (.inRegion ops (i :: rest) :: k)
  simp only [Base.at] at he
  simp only [stepG, stepG.exec, stepG.oper, Frame.oper?, Base.at, ho, Option.map_some, Option.getD_some, hw, if_true, he]
  split
  · rename_i c _ hop; exact absurd hop (hd _)
  · rfl
theorem stepR_value {i : Nat} {rest : List Nat} {o : Oper} {v : Value} (ho : ops[i]? = some o) (hw : Region.wanted o (yielded ops a.tmps) = true) (hd : ∀ c, o.op ≠ .defer c)
    (hr : (execOp a.eval o).run P w = .ok (.value v) w') : step P (lone (b.at a (.inRegion ops (i :: rest) :: k)) cs w) = .next (lone (b.at (a.put o.dst v) (.inRegion ops rest :: k)) cs w') := by
  have hfin := Base.finish_at b a ops i rest k v
  rw [ho] at hfin
  refine step_lone_go ?_
  rw [stepG_opR ho hw hd]
  simp only [Option.bind_some] at hfin
  rw [← hfin]
  simp [stepG.apply, hr]
theorem stepR_skipped {i : Nat} {rest : List Nat} {o : Oper} (ho : ops[i]? = some o) (hw : Region.wanted o (yielded ops a.tmps) = true) (hd : ∀ c, o.op ≠ .defer c)
    (hr : (execOp a.eval o).run P w = .ok .skip w') : step P (lone (b.at a (.inRegion ops (i :: rest) :: k)) cs w) = .next (lone (b.at (a.put o.dst undef) (.inRegion ops rest :: k)) cs w') := by
  have hfin := Base.finish_at b a ops i rest k undef
  rw [ho] at hfin
  refine step_lone_go ?_
  rw [stepG_opR ho hw hd]
  simp only [Option.bind_some] at hfin
  rw [← hfin]
  simp [stepG.apply, hr]
theorem stepR_enter {i : Nat} {rest : List Nat} {o : Oper} {f : FuncId} {args : Array Value} (ho : ops[i]? = some o) (hw : Region.wanted o (yielded ops a.tmps) = true) (hd : ∀ c, o.op ≠ .defer c)
    (hr : (execOp a.eval o).run P w = .ok (.enter f args) w') :
    step P (lone (b.at a (.inRegion ops (i :: rest) :: k)) cs w) = .next (lone (Frame.enter P f args .normal) (b.at a (.inRegion ops (i :: rest) :: k) :: cs) w') := by
  refine step_lone_go ?_
  rw [stepG_opR ho hw hd]
  simp [stepG.apply, hr, Base.at]
theorem stepR_back {i : Nat} {rest : List Nat} {o : Oper} {fr : Frame} {v : Value} (ho : ops[i]? = some o) (h : fr.leaving P w (.returned v)) :
    step P (lone fr (b.at a (.inRegion ops (i :: rest) :: k) :: cs) w) = .next (lone (b.at (a.put o.dst v) (.inRegion ops rest :: k)) cs w) := by
  rw [step_leave_returned h, Base.finish_at, ho]; rfl
end

/-- A call of a function, by the steps that it takes: it returns. -/
def Ret (P : Program) (f : FuncId) (args : Array Value) (w : World) (R : Value → World → Prop) : Prop :=
  ∀ cs, ∃ v w' fr, R v w' ∧ Steps P (lone (Frame.enter P f args .normal) cs w) (lone fr cs w') ∧ fr.fn = f ∧ fr.leaving P w' (.returned v)
theorem Ret.calls {P : Program} {f : FuncId} {args : Array Value} {w : World} {R : Value → World → Prop} (h : Ret P f args w R) : Calls P f args w fun | .returned v, w' => R v w' | _, _ => False := by
  intro cs
  obtain ⟨v, w', fr, hR, hs, hf, hl⟩ := h cs
  exact ⟨.returned v, w', fr, hR, hs, hf, hl⟩
theorem Ret.mono {P : Program} {f : FuncId} {args : Array Value} {w : World} {R R' : Value → World → Prop} (h : Ret P f args w R) (hr : ∀ v w', R v w' → R' v w') : Ret P f args w R' := by
  intro cs
  obtain ⟨v, w', fr, hR, hs, hf, hl⟩ := h cs
  exact ⟨v, w', fr, hr _ _ hR, hs, hf, hl⟩
theorem Ret.of_calls {P : Program} {f : FuncId} {args : Array Value} {w : World} {R : Value → World → Prop} (h : Calls P f args w fun | .returned v, w' => R v w' | _, _ => False) : Ret P f args w R := by
  intro cs
  obtain ⟨e, w', fr, hR, hs, hf, hl⟩ := h cs
  cases e with
  | returned v => exact ⟨v, w', fr, hR, hs, hf, hl⟩
  | panicked _ => exact hR.elim
  | outgrown => exact hR.elim
end Go.Ev

namespace Go.Ev
set_option linter.unusedSimpArgs false
set_option linter.unusedVariables false

/-- An operation is done, from whatever frame. -/
def OpArr (P : Program) (o : Oper) (a : Act) (w : World) (R : Value → World → Prop) : Prop :=
  ∀ (b : Base) (k : List Item) (cs : List Frame) (ops : Array Oper) (i : Nat) (rest : List Nat), ops[i]? = some o → Region.wanted o (yielded ops a.tmps) = true →
    ∃ v w', R v w' ∧ Steps P (lone (b.at a (.inRegion ops (i :: rest) :: k)) cs w) (lone (b.at (a.put o.dst v) (.inRegion ops rest :: k)) cs w')
/-- A function is called: by its code, or at once. -/
def CallArr (P : Program) (f : FuncId) (args : Array Value) (w : World) (R : Value → World → Prop) : Prop :=
  (∃ X w', (callFunc f args).run P w = .ok (.value X) w' ∧ R X w') ∨ ((callFunc f args).run P w = .ok (.enter f args) w ∧ Ret P f args w R)
/-- A round of a range over a function. -/
def RoundArr (P : Program) (l : Nat) (args : Array Value) (w : World) (R : Value → World → Prop) : Prop :=
  ∃ f tmps assign body w1, (Instr.yield l args).run P w = .ok (.round l f tmps assign body) w1 ∧
    ∀ (c : Frame) (cs : List Frame), ∃ v w', R v w' ∧ Steps P (lone (Frame.round l f tmps assign body .normal) (c :: cs) w1) (lone (c.finish v) cs w')
def SoundCall (P : Program) (call : CallF) : Prop := ∀ f args h r h', call f args h = some (r, h') → ∀ (γ : G) (w : World) (xs : Array Value), Sim γ h w → RVs γ args xs.toList →
  CallArr P f xs w fun X w' => ∃ γ', Post γ h w γ' h' w' ∧ RV γ' r X
def SoundYld (P : Program) (yld : Nat → List LV → Heap → Option (LV × Heap)) : Prop := ∀ l args h r h', yld l args h = some (r, h') → ∀ (γ : G) (w : World) (xs : Array Value) (loc : Loc), Sim γ h w → RVs γ args xs.toList → γ.mu l 0 = some loc →
  RoundArr P loc.r xs w fun X w' => ∃ γ', Post γ h w γ' h' w' ∧ RV γ' r X

section
variable {P : Program} {γ : G} {h h' : Heap} {w : World}

theorem opArr_value {o : Oper} {a : Act} {R : Value → World → Prop} {X : Value} {w' : World} (hd : ∀ c, o.op ≠ .defer c) (hr : (execOp a.eval o).run P w = .ok (.value X) w') (h : R X w') : OpArr P o a w R :=
  fun b k cs ops i rest ho hw => ⟨X, w', h, .one (stepR_value ho hw hd hr)⟩
theorem opArr_skip {o : Oper} {a : Act} {R : Value → World → Prop} {w' : World} (hd : ∀ c, o.op ≠ .defer c) (hr : (execOp a.eval o).run P w = .ok .skip w') (h : R Go.undef w') : OpArr P o a w R :=
  fun b k cs ops i rest ho hw => ⟨Go.undef, w', h, .one (stepR_skipped ho hw hd hr)⟩
theorem opArr_enter {o : Oper} {a : Act} {R : Value → World → Prop} {f : FuncId} {args : Array Value} (hd : ∀ c, o.op ≠ .defer c) (hr : (execOp a.eval o).run P w = .ok (.enter f args) w) (h : Ret P f args w R) : OpArr P o a w R := by
  intro b k cs ops i rest ho hw
  obtain ⟨v, w', fr, hR, hs, _, hl⟩ := h (b.at a (.inRegion ops (i :: rest) :: k) :: cs)
  exact ⟨v, w', hR, .head (stepR_enter ho hw hd hr) (hs.trans (.one (stepR_back ho hl)))⟩
theorem opArr_round {o : Oper} {a : Act} {R : Value → World → Prop} {l : Nat} {args : Array Value} (hd : ∀ c, o.op ≠ .defer c) (hr : (execOp a.eval o).run P w = (Instr.yield l args).run P w) (h : RoundArr P l args w R) : OpArr P o a w R := by
  obtain ⟨f, tmps, assign, body, w1, hy, hs⟩ := h
  intro b k cs ops i rest ho hw
  obtain ⟨v, w', hR, hst⟩ := hs (b.at a (.inRegion ops (i :: rest) :: k)) cs
  refine ⟨v, w', hR, .head (m₁ := lone (Frame.round l f tmps assign body .normal) (b.at a (.inRegion ops (i :: rest) :: k) :: cs) w1) ?_ ?_⟩
  · refine step_lone_go ?_
    rw [stepG_opR ho hw hd]
    simp [stepG.apply, hr, hy]
  · have := Base.finish_at b a ops i rest k v
    rw [ho] at this
    simp only [Option.bind_some] at this
    rw [← this]
    exact hst
theorem opArr_call {o : Oper} {a : Act} {R : Value → World → Prop} {f : FuncId} {args : Array Value} (hd : ∀ c, o.op ≠ .defer c) (hr : (execOp a.eval o).run P w = (callFunc f args).run P w) (h : CallArr P f args w R) : OpArr P o a w R := by
  rcases h with ⟨X, w', h1, h2⟩ | ⟨h1, h2⟩
  · exact opArr_value hd (hr.trans h1) h2
  · exact opArr_enter hd (hr.trans h1) h2

/-- What an operation must come to. -/
abbrev Good (γ : G) (h : Heap) (w : World) (v : LV) (h' : Heap) : Value → World → Prop := fun X w' => ∃ γ', Post γ h w γ' h' w' ∧ RV γ' v X

theorem opRes_good {o : Oper} {a : Act} {s : Sem Value} {v : LV} (hd : ∀ c, o.op ≠ .defer c) (he : execOp a.eval o = (do pure (.value (← s)))) (hs : OpRes P γ h w s v h') : OpArr P o a w (Good γ h w v h') := by
  obtain ⟨γ', w', X, hr, hp, hv⟩ := hs
  refine opArr_value (X := X) (w' := w') hd ?_ ⟨γ', hp, hv⟩
  rw [he, Sem.run_bind, hr]
  rfl
theorem unit_good {o : Oper} {a : Act} {s : Sem Unit} (hd : ∀ c, o.op ≠ .defer c) (he : execOp a.eval o = (do s; pure .skip)) (hs : ∃ w', s.run P w = .ok () w' ∧ Post γ h w γ h' w') : OpArr P o a w (Good γ h w LV.undef h') := by
  obtain ⟨w', hr, hp⟩ := hs
  refine opArr_skip (w' := w') hd ?_ ⟨γ, hp, RV_undef⟩
  rw [he, Sem.run_bind, hr]
  rfl
theorem pure_good {o : Oper} {a : Act} {s : Sem Value} {v : LV} (hs : Sim γ h w) (hd : ∀ c, o.op ≠ .defer c) (he : execOp a.eval o = (do pure (.value (← s)))) (hp : PureRes P γ w s v) : OpArr P o a w (Good γ h w v h) :=
  opRes_good hd he (hp.op hs)

theorem builtin_good (s : Sim γ h w) {b : Builtin} {argTypes : Array TypeId} {ty : TypeId} {args : List LV} {xs : Array Value} {v : LV} (hb : builtinE P b argTypes args h = some (v, h')) (hx : RVs γ args xs.toList) :
    ∃ sem : Sem Value, (∀ consts, builtin b argTypes ty consts xs = (do pure (.value (← sem)))) ∧ OpRes P γ h w sem v h' := by
  unfold builtinE at hb
  have one : ∀ {x : LV}, args = [x] → ∃ X, xs = #[X] ∧ RV γ x X := by
    intro x he
    subst he
    obtain ⟨l⟩ := xs
    match l, hx with
    | [X], hx => exact ⟨X, rfl, hx.2 0 x X rfl rfl⟩
    | [], hx => have := hx.1; simp at this
    | _ :: _ :: _, hx => have := hx.1; simp at this
  have two : ∀ {x y : LV}, args = [x, y] → ∃ X Y, xs = #[X, Y] ∧ RV γ x X ∧ RV γ y Y := by
    intro x y he
    subst he
    obtain ⟨l⟩ := xs
    match l, hx with
    | [X, Y], hx => exact ⟨X, Y, rfl, hx.2 0 x X rfl rfl, hx.2 1 y Y rfl rfl⟩
    | [], hx => have := hx.1; simp at this
    | [_], hx => have := hx.1; simp at this
    | _ :: _ :: _ :: _, hx => have := hx.1; simp at this
  split at hb
  · rename_i t x h0
    obtain ⟨X, rfl, hX⟩ := one rfl
    cases hl : lenE P t x h with
    | none => rw [hl] at hb; cases hb
    | some u => rw [hl] at hb; cases hb; exact ⟨_, fun _ => rfl, (len_res s hl h0 hX).op s⟩
  · rename_i t x h0
    obtain ⟨X, rfl, hX⟩ := one rfl
    cases hl : capE P t x with
    | none => rw [hl] at hb; cases hb
    | some u => rw [hl] at hb; cases hb; exact ⟨_, fun _ => rfl, (cap_res hl h0 hX).op s⟩
  · rename_i t sv x h0
    obtain ⟨S, X, rfl, hS, hX⟩ := two rfl
    exact ⟨_, fun _ => rfl, appendE_res s hb h0 hS hX⟩
  · rename_i t d x h0
    obtain ⟨D, X, rfl, hD, hX⟩ := two rfl
    exact ⟨_, fun _ => rfl, copyE_res s hb h0 hD hX⟩
  · obtain ⟨u, hm, hu⟩ := Option.map_eq_some_iff.1 hb
    cases hu
    exact ⟨_, fun _ => rfl, (min_res _ _ hm hx).op s⟩
  · obtain ⟨u, hm, hu⟩ := Option.map_eq_some_iff.1 hb
    cases hu
    exact ⟨_, fun _ => rfl, (max_res _ _ hm hx).op s⟩
  · cases hb

/-- An operation that makes memory. -/
theorem evA_raw {n : Nat} {tm : Tmps} {a : Act} (ht : RT γ n tm a.tmps) {o : Oper} {nw : New} (he : evA P tm o.op = some nw) : ∃ sem : Sem Value, execOp a.eval o = (do pure (.value (← sem))) ∧ RawNew P γ w sem nw ∧ (∀ c, o.op ≠ .defer c) := by
  have bnd : ∀ {α β : Type} {x : Option α} {f : α → Option β} {y : β}, x.bind f = some y → ∃ z, x = some z ∧ f z = some y := fun h => Option.bind_eq_some_iff.1 h
  have mp : ∀ {α β : Type} {x : Option α} {f : α → β} {y : β}, x.map f = some y → ∃ z, x = some z ∧ f z = y := fun h => Option.map_eq_some_iff.1 h
  unfold evA at he
  split at he
  · rename_i t hop
    obtain ⟨z, hz, e⟩ := mp he
    cases e
    exact ⟨_, by simp only [execOp, hop], alloc_res hz, by simp [hop]⟩
  · rename_i t x hop
    obtain ⟨u, hu, e⟩ := mp he
    cases e
    exact ⟨_, by simp only [execOp, hop, Instr.box], newVar_res (t := t) (val_rel ht hu), by simp [hop]⟩
  · rename_i t k ps hop
    obtain ⟨u, hu, he⟩ := bnd he
    obtain ⟨p1, p2⟩ := parts_rel ht hu
    exact ⟨_, by simp only [execOp, hop], buildSlice_res he p1 p2, by simp [hop]⟩
  · rename_i t r hop
    split at he
    · cases he
      exact ⟨Instr.makeMap t none, by simp [execOp, hop], raw_map (by simp [Instr.makeMap]), by simp [hop]⟩
    · rename_i r' kt et hu
      obtain ⟨u, hu', he⟩ := bnd he
      split at he
      · rename_i k n
        cases he
        have hv := RV_int (val_rel ht hu')
        refine ⟨Instr.makeMap t (some (a.eval r')), by simp [execOp, hop], raw_map ?_, by simp [hop]⟩
        simp [Instr.makeMap, underlying, hu, hv, asInt, asIntOf]
      · cases he
    · cases he
  · rename_i t x y hop
    obtain ⟨u, hu, he⟩ := bnd he
    obtain ⟨u', hu', he⟩ := bnd he
    exact ⟨_, by simp only [execOp, hop], makeSlice_res he (val_rel ht hu) (val_rel ht hu'), by simp [hop]⟩
  · cases he

theorem evOp_good {call : CallF} {yld : Nat → List LV → Heap → Option (LV × Heap)} (hcall : SoundCall P call) (hyld : SoundYld P yld) (s : Sim γ h w) {n : Nat} {tm : Tmps} {a : Act} (ht : RT γ n tm a.tmps) {o : Oper} {v : LV}
    (he : evOp P call yld tm o h = some (v, h')) : OpArr P o a w (Good γ h w v h') := by
  have anew : ∀ {op : Op}, (evA P tm o.op).map (putNew h) = some (v, h') → o.op = op → OpArr P o a w (Good γ h w v h') := by
    intro op he' _
    obtain ⟨nw, hnw, e⟩ := Option.map_eq_some_iff.1 he'
    obtain ⟨sem, hex, hraw, hd⟩ := evA_raw (P := P) (w := w) ht hnw
    have := opRes_good hd hex (hraw.op s)
    rw [e] at this
    exact this
  unfold evOp at he
  have bnd : ∀ {α β : Type} {x : Option α} {f : α → Option β} {y : β}, x.bind f = some y → ∃ z, x = some z ∧ f z = some y := fun h => Option.bind_eq_some_iff.1 h
  have mp : ∀ {α β : Type} {x : Option α} {f : α → β} {y : β}, x.map f = some y → ∃ z, x = some z ∧ f z = y := fun h => Option.map_eq_some_iff.1 h
  split at he
  · -- move
    rename_i x hop
    obtain ⟨u, hu, e⟩ := mp he
    cases e
    exact opArr_value (X := a.eval x) (w' := w) (by simp [hop]) (by simp [execOp, hop]) ⟨γ, .refl s, val_rel ht hu⟩
  · rename_i x hop
    obtain ⟨u, hu, e⟩ := mp he
    cases e
    exact opArr_value (X := a.eval x) (w' := w) (by simp [hop]) (by simp [execOp, hop]) ⟨γ, .refl s, val_rel ht hu⟩
  · -- pick
    rename_i c x y hop
    obtain ⟨u, hu, he⟩ := bnd he
    have hc := val_rel ht hu
    have hex : execOp a.eval o = (do pure (.value (← (do pure (if ← asBool (a.eval c) then a.eval x else a.eval y) : Sem Value)))) := by simp [execOp, hop]
    split at he
    · obtain ⟨u', hu', e⟩ := mp he
      cases e
      refine pure_good s (by simp [hop]) hex ⟨a.eval x, ?_, val_rel ht hu'⟩
      generalize a.eval c = C at *
      cases hc
      rfl
    · obtain ⟨u', hu', e⟩ := mp he
      cases e
      refine pure_good s (by simp [hop]) hex ⟨a.eval y, ?_, val_rel ht hu'⟩
      generalize a.eval c = C at *
      cases hc
      rfl
    · cases he
  · exact anew he (by assumption)
  · exact anew he (by assumption)
  · exact anew he (by assumption)
  · exact anew he (by assumption)
  · exact anew he (by assumption)
  · -- build
    rename_i t ps hop
    obtain ⟨u, hu, he⟩ := bnd he
    obtain ⟨r, hr, e⟩ := mp he
    cases e
    obtain ⟨p1, p2⟩ := parts_rel ht hu
    exact pure_good s (by simp [hop]) (by simp [execOp, hop]) (build_res hr p1 p2)
  · -- load
    rename_i t x hop
    obtain ⟨u, hu, he⟩ := bnd he
    obtain ⟨r, hr, e⟩ := mp he
    cases e
    exact pure_good s (by simp [hop]) (by simp [execOp, hop]) (loadAt_res s hr (val_rel ht hu))
  · -- store
    rename_i t x y hop
    obtain ⟨u, hu, he⟩ := bnd he
    obtain ⟨u', hu', he⟩ := bnd he
    obtain ⟨r, hr, e⟩ := mp he
    cases e
    exact unit_good (by simp [hop]) (by simp [execOp, hop]) (storeAt_res s hr (val_rel ht hu) (val_rel ht hu'))
  · -- nilCheck
    rename_i x hop
    obtain ⟨u, hu, he⟩ := bnd he
    have hv := val_rel ht hu
    have hcase : u = v ∧ h' = h ∧ (execOp a.eval o).run P w = .ok (.value (a.eval x)) w := by
      simp only [execOp, hop]
      generalize a.eval x = X at *
      cases hv <;> first | (cases he; done) | (cases he; exact ⟨rfl, rfl, rfl⟩)
    obtain ⟨rfl, rfl, hr⟩ := hcase
    exact opArr_value (by simp [hop]) hr ⟨γ, .refl s, hv⟩
  · -- binOp
    rename_i op t x y ty hop
    obtain ⟨u, hu, he⟩ := bnd he
    obtain ⟨u', hu', he⟩ := bnd he
    obtain ⟨r, hr, e⟩ := mp he
    cases e
    refine pure_good s (by simp [hop]) ?_ (binOpE_res (ox := x) (oy := y) hr (val_rel ht hu) (val_rel ht hu'))
    simp only [execOp, hop]
  · -- unOp
    rename_i op t x hop
    obtain ⟨u, hu, he⟩ := bnd he
    obtain ⟨r, hr, e⟩ := mp he
    cases e
    exact pure_good s (by simp [hop]) (by simp [execOp, hop]) (unOpE_res hr (val_rel ht hu))
  · -- convert
    rename_i t t' x hop
    obtain ⟨u, hu, he⟩ := bnd he
    exact opRes_good (by simp [hop]) (by simp [execOp, hop]) (convert_res s he (val_rel ht hu))
  · -- makeInterface
    rename_i t x hop
    obtain ⟨u, hu, he⟩ := bnd he
    split at he
    · cases he
    · cases he
    · rename_i d hni hnn
      cases he
      refine pure_good s (by simp [hop]) (by simp [execOp, hop]; rfl) ⟨.iface t (a.eval x), ?_, .iface _ _ _ (val_rel ht hu)⟩
      cases hd : P.underlying t with
      | none => exact absurd hd hnn
      | some d =>
        simp only [Instr.makeInterface, Sem.run_bind, run_underlying' hd, Result.andThen_ok]
        cases d <;> first | rfl | exact absurd hd (hni _)
  · -- makeFunc
    rename_i f first captured hop
    obtain ⟨u, hu, he⟩ := bnd he
    obtain ⟨u', hu', e⟩ := mp he
    cases e
    have h1 := vals_rel ht hu
    have h2 := vals_rel ht hu'
    refine opArr_value (X := .func (.func f) (first.map a.eval) (captured.map a.eval)) (w' := w) (by simp [hop]) (by simp [execOp, hop, Instr.makeFunc]) ⟨γ, .refl s, ?_⟩
    exact .fn f _ _ _ _ (by have := h1.1; simpa using this) (by have := h2.1; simpa using this) (fun i v x q1 q2 => h1.2 i v x q1 (by simpa using q2)) (fun i v x q1 q2 => h2.2 i v x q1 (by simpa using q2))
  · -- slice
    rename_i t x lo hi mx hop
    obtain ⟨u, hu, he⟩ := bnd he
    obtain ⟨l, hl, he⟩ := bnd he
    obtain ⟨k, hk, he⟩ := bnd he
    obtain ⟨m, hm, he⟩ := bnd he
    obtain ⟨r, hr, e⟩ := mp he
    cases e
    exact pure_good s (by simp [hop]) (by simp [execOp, hop]) (sliceAt_res s hr (val_rel ht hu) (oval_rel ht hl) (oval_rel ht hk) (oval_rel ht hm))
  · -- fieldAddr
    rename_i t x i hop
    obtain ⟨u, hu, he⟩ := bnd he
    obtain ⟨r, hr, e⟩ := mp he
    cases e
    exact pure_good s (by simp [hop]) (by simp [execOp, hop]) (fieldAddr_res hr (val_rel ht hu))
  · -- field
    rename_i t x i hop
    obtain ⟨u, hu, he⟩ := bnd he
    split at he
    · rename_i fields cs hd
      obtain ⟨f, hf, he⟩ := bnd he
      obtain ⟨r, hr, e⟩ := mp he
      cases e
      refine pure_good s (by simp [hop]) (by simp [execOp, hop]; rfl) ?_
      have hv := val_rel ht hu
      generalize a.eval x = X at *
      cases hv with
      | agg _ xs hs hc =>
        obtain ⟨Z, hZ, hZr⟩ := part_res (w := w) (RVs_of_agg (.agg _ _ hs hc)) hr
        refine ⟨Z, ?_, hZr⟩
        simp only [Instr.field, Sem.run_bind, run_underlying' hd, Result.andThen_ok, hf, asAgg, pure_bind, hZ]
    · cases he
  · -- indexAddr
    rename_i t x i hop
    obtain ⟨u, hu, he⟩ := bnd he
    obtain ⟨u', hu', he⟩ := bnd he
    obtain ⟨r, hr, e⟩ := mp he
    cases e
    exact pure_good s (by simp [hop]) (by simp [execOp, hop]) (indexAddr_res hr (val_rel ht hu) (val_rel ht hu'))
  · -- index
    rename_i t x i hop
    obtain ⟨u, hu, he⟩ := bnd he
    obtain ⟨u', hu', he⟩ := bnd he
    obtain ⟨r, hr, e⟩ := mp he
    cases e
    exact pure_good s (by simp [hop]) (by simp [execOp, hop]) (index_res hr (val_rel ht hu) (val_rel ht hu'))
  · -- lookup
    rename_i t x i ok hop
    obtain ⟨u, hu, he⟩ := bnd he
    obtain ⟨u', hu', he⟩ := bnd he
    obtain ⟨r, hr, e⟩ := mp he
    cases e
    exact pure_good s (by simp [hop]) (by simp [execOp, hop]) (lookup_res s hr (val_rel ht hu) (val_rel ht hu'))
  · -- mapUpdate
    rename_i t x y z hop
    obtain ⟨u, hu, he⟩ := bnd he
    obtain ⟨u', hu', he⟩ := bnd he
    obtain ⟨u'', hu'', he⟩ := bnd he
    obtain ⟨r, hr, e⟩ := mp he
    cases e
    exact unit_good (by simp [hop]) (by simp [execOp, hop]) (mapUpdate_res s hr (val_rel ht hu) (val_rel ht hu') (val_rel ht hu''))
  · -- insert
    rename_i t x y z hop
    obtain ⟨u, hu, he⟩ := bnd he
    obtain ⟨u', hu', he⟩ := bnd he
    obtain ⟨u'', hu'', he⟩ := bnd he
    obtain ⟨r, hr, e⟩ := mp he
    cases e
    exact unit_good (by simp [hop]) (by simp [execOp, hop]) (mapUpdate_res s hr (val_rel ht hu) (val_rel ht hu') (val_rel ht hu''))
  · -- mapEntry
    rename_i t x y hop
    obtain ⟨u, hu, he⟩ := bnd he
    obtain ⟨u', hu', he⟩ := bnd he
    exact opRes_good (by simp [hop]) (by simp [execOp, hop]) (mapEntry_res s he (val_rel ht hu) (val_rel ht hu'))
  · -- entryStore
    rename_i t x y z hop
    obtain ⟨u, hu, he⟩ := bnd he
    obtain ⟨u', hu', he⟩ := bnd he
    obtain ⟨u'', hu'', he⟩ := bnd he
    obtain ⟨r, hr, e⟩ := mp he
    cases e
    exact unit_good (by simp [hop]) (by simp [execOp, hop]) (entryStore_res (t := t) s hr (val_rel ht hu) (val_rel ht hu') (val_rel ht hu''))
  · -- extract
    rename_i x i hop
    obtain ⟨u, hu, he⟩ := bnd he
    split at he
    · rename_i vs
      obtain ⟨r, hr, e⟩ := mp he
      cases e
      refine pure_good s (by simp [hop]) (by simp [execOp, hop]; rfl) ?_
      have hv := val_rel ht hu
      generalize a.eval x = X at *
      cases hv with
      | tuple _ xs hs hc =>
        obtain ⟨Z, hZ, hZr⟩ := RVs_get (xs := xs) ⟨by simpa using hs, fun i v x q1 q2 => hc i v x q1 (by simpa using q2)⟩ i _ hr
        exact ⟨Z, by simp [Instr.extract, hZ], hZr⟩
    · cases he
  · -- call
    rename_i c hop
    obtain ⟨args, hargs, he⟩ := bnd he
    have hx := vals_rel ht hargs
    have hex : ∀ w, (execOp a.eval o).run P w = ((do let d ← resolve a.eval c o.type; invoke d.target d.args : Sem Next)).run P w := by
      intro w; simp only [execOp, hop]
    split at he
    · rename_i bb hcal
      obtain ⟨sem, h1, h2⟩ := builtin_good (ty := o.type) s he hx
      obtain ⟨γ', w', X, hr, hp, hv⟩ := h2
      refine opArr_value (X := X) (w' := w') (by simp [hop]) ?_ ⟨γ', hp, hv⟩
      rw [hex]
      simp only [resolve, hcal, Sem.run_bind, Sem.run_pure, Result.andThen_ok, invoke, h1, hr]
    · rename_i f hcal
      obtain ⟨fv, hfv, he⟩ := bnd he
      have hf := val_rel ht hfv
      unfold callV at he
      split at he
      · rename_i f' first captured
        generalize hF : a.eval f = F at hf
        cases hf with
        | fn _ _ _ fa ca hfs hcs hfr hcr =>
          have ha : RVs γ (first ++ args ++ captured) (fa ++ c.args.map a.eval ++ ca).toList := by
            rw [Array.toList_append, Array.toList_append]
            exact RVs_append (RVs_append ⟨by simpa using hfs, fun i v x q1 q2 => hfr i v x q1 (by simpa using q2)⟩ hx) ⟨by simpa using hcs, fun i v x q1 q2 => hcr i v x q1 (by simpa using q2)⟩
          refine opArr_call (f := f') (args := fa ++ c.args.map a.eval ++ ca) (by simp [hop]) ?_ (hcall f' _ h v h' he γ w _ s ha)
          rw [hex]
          simp only [resolve, hcal, hF, Deferred.ofValue, Sem.run_bind, Sem.run_pure, Result.andThen_ok, invoke]
      · rename_i l
        generalize hF : a.eval f = F at hf
        cases hf with
        | yld _ loc hm =>
          refine opArr_round (l := loc.r) (args := c.args.map a.eval) (by simp [hop]) ?_ (hyld l args h v h' he γ w _ loc s hx hm)
          rw [hex]
          simp only [resolve, hcal, hF, Deferred.ofValue, Sem.run_bind, Sem.run_pure, Result.andThen_ok, invoke]
          simp
      · cases he
    · cases he
  · cases he
end
end Go.Ev

namespace Go.Ev
set_option linter.unusedSimpArgs false
set_option linter.unusedVariables false

/-! ## Ranges over functions: the loop's record, the marks among the deferred calls -/
section
variable {P : Program} {γ γ' : G} {h h' : Heap} {w w' : World} {b : Base} {a : Act} {k : List Item} {cs : List Frame}

theorem step_beginR {l : Nat} (hb : b.round = some l) (hr : (Instr.beginRound l).run P w = .ok () w') : step P (lone (b.at a (.beginRound :: k)) cs w) = .next (lone (b.at a k) cs w') :=
  step_lone_go (by simp [stepG, stepG.exec, stepG.apply, Base.at, hb, Sem.runT_eq, hr, Result.andThen, Frame.finish])
theorem step_roundEnd {c : Frame} {l : Nat} {v : Value} (hb : b.round = some l) (hk : b.kind = .normal) (hr : (Instr.endRound l none).run P w = .ok v w') :
    step P (lone (b.at a []) (c :: cs) w) = .next (lone (c.finish v) cs w') :=
  step_lone_go (by simp [stepG, stepG.exec, Base.at, hb, hk, Sem.runT_eq, hr, doReturn])
theorem step_roundRet {c : Frame} {l : Nat} {v : Value} (hb : b.round = some l) (hk : b.kind = .normal) (hr : (Instr.endRound l (some .ret)).run P w = .ok v w') :
    step P (lone (b.at a (.code .ret :: k)) (c :: cs) w) = .next (lone (c.finish v) cs w') :=
  step_lone_go (by simp [stepG, stepG.exec, Base.at, hb, hk, Sem.runT_eq, hr, doReturn])
theorem step_roundExit {c : Frame} {l id : Nat} {v : Value} (hb : b.round = some l) (hk : b.kind = .normal) (hx : exitTo id k = none) (hr : (Instr.endRound l (some (.exit id))).run P w = .ok v w') :
    step P (lone (b.at a (.code (.exit id) :: k)) (c :: cs) w) = .next (lone (c.finish v) cs w') :=
  step_lone_go (by simp [stepG, stepG.exec, Base.at, hb, hk, hx, Sem.runT_eq, hr, doReturn])
theorem finish_inRange (l : Nat) (v : Value) : (b.at a (.inRangeFunc l :: k)).finish v = b.at a (.endRangeFunc l :: k) := by
  simp [Frame.finish, Base.at]
theorem step_endRange {l : Nat} {jump : Option Code} (h : (Instr.endLoop l).run P w = .ok jump w') :
    step P (lone (b.at a (.endRangeFunc l :: k)) cs w) = .next (lone (b.at a ((jump.map Item.code).toList ++ k)) cs w') :=
  step_lone_go (by simp [stepG, stepG.exec, Base.at, Sem.runT_eq, h, GStep.bare_after])
abbrev rangeCall' (g : Operand) (l : Nat) : Call := { callee := .value g, args := #[.const (.func (.yield l) #[] #[])], argTypes := #[] }
theorem step_rangeR {g : Operand} {ps : Array Tmp} {assign body : Code} {l : Nat} {mark : List Deferred} {w₁ w₁' w₂ : World} {d : Deferred} {f : FuncId} {args : Array Value}
    (he : (Instr.enterLoop b.fn a.tmps ps assign body b.round).run P w = .ok (l, mark) w₁)
    (hres : (resolve a.eval (rangeCall' g l) 0).run P w₁ = .ok d w₁') (hinv : (invoke d.target d.args).run P w₁' = .ok (.enter f args) w₂) :
    step P (lone (b.at a (.code (.rangeFunc g ps assign body) :: k)) cs w) =
      .next (lone (Frame.enter P f args .normal) (b.at { a with defers := mark ++ a.defers } (.inRangeFunc l :: k) :: cs) w₂) :=
  step_lone_go (by
    have hev := Base.eval_at' b { a with defers := mark ++ a.defers } (.inRangeFunc l :: k)
    simp only [Base.at] at hev
    have hres' : Sem.run P (resolve ({ tmps := a.tmps, defers := mark ++ a.defers } : Act).eval { callee := .value g, args := #[.const (.func (.yield l) #[] #[])], argTypes := #[] } 0) w₁ = .ok d w₁' := hres
    simp [stepG, stepG.exec, Base.at, Sem.runT_eq, he, GStep.bare_after, stepG.apply, hev, Sem.run_bind, hres', hinv, Result.andThen])
theorem step_rangeV {g : Operand} {ps : Array Tmp} {assign body : Code} {l : Nat} {mark : List Deferred} {w₁ w₁' w₂ : World} {d : Deferred} {v : Value}
    (he : (Instr.enterLoop b.fn a.tmps ps assign body b.round).run P w = .ok (l, mark) w₁)
    (hres : (resolve a.eval (rangeCall' g l) 0).run P w₁ = .ok d w₁') (hinv : (invoke d.target d.args).run P w₁' = .ok (.value v) w₂) :
    step P (lone (b.at a (.code (.rangeFunc g ps assign body) :: k)) cs w) =
      .next (lone (b.at { a with defers := mark ++ a.defers } (.endRangeFunc l :: k)) cs w₂) := by
  have hfin := finish_inRange (b := b) (a := { a with defers := mark ++ a.defers }) (k := k) l v
  refine step_lone_go ?_
  rw [← hfin]
  have hev := Base.eval_at' b { a with defers := mark ++ a.defers } (.inRangeFunc l :: k)
  simp only [Base.at] at hev
  have hres' : Sem.run P (resolve ({ tmps := a.tmps, defers := mark ++ a.defers } : Act).eval { callee := .value g, args := #[.const (.func (.yield l) #[] #[])], argTypes := #[] } 0) w₁ = .ok d w₁' := hres
  simp [stepG, stepG.exec, Base.at, Sem.runT_eq, he, GStep.bare_after, stepG.apply, hev, Sem.run_bind, hres', hinv, Result.andThen]

theorem loop_obj (s : Sim γ h w) {b : Nat} {r : LLoop} {l : Loc} (hb : h.get b = some (.loop r)) (hm : γ.mu b 0 = some l) :
    ∃ R : Loop, w.heap[l.r]? = some (.loop R) ∧ R.state = r.state ∧ R.pending = r.pending ∧ R.params.toList = r.params ∧ R.assign = r.assign ∧ R.body = r.body ∧ RT γ r.n r.tmps R.tmps := by
  obtain ⟨_, hR⟩ := s.obj b _ hb 0 l hm
  exact hR
theorem post_setLoop (s : Sim γ h w) {b : Nat} {r : LLoop} {l : Loc} {R : Loop} (hb : h.get b = some (.loop r)) (hm : γ.mu b 0 = some l) (hR : w.heap[l.r]? = some (.loop R)) (st : LoopState) (pe : Option Code) :
    Post γ h w γ (h.set b (.loop { r with state := st, pending := pe })) (w.putObj l.r (.loop { R with state := st, pending := pe })) := by
  have hlt := s.lt b 0 l hm
  refine .upd s b _ _ 0 l hb hm (by simp [World.putObj]) rfl rfl rfl (fun r hr hn => World.putObj_heap_other fun e => hn 0 l hm e.symm) ?_
  intro g l' hl'
  obtain ⟨hg, R', e0, e1, e2, e3, e4, e5, e6⟩ := s.obj b _ hb g l' hl'
  subst hg
  rw [hm] at hl'
  cases hl'
  rw [hR] at e0
  cases e0
  exact ⟨rfl, _, World.putObj_heap_same hlt, rfl, rfl, e3, e4, e5, e6⟩

/-! ### marks -/
def markOf (D : Nat) : Deferred := { target := .collected D, args := #[] }
def Marks (γ : G) (w w' : World) (a a' : Act) : Prop :=
  ∃ Ds : List Nat, a'.defers = Ds.map markOf ++ a.defers ∧ Ds.Nodup ∧ ∀ D ∈ Ds, w.heap.size ≤ D ∧ w'.heap[D]? = some (.deferred (some [])) ∧ ∀ b g l, γ.mu b g = some l → l.r ≠ D
theorem Marks.none {a' : Act} (hd : a'.defers = a.defers) : Marks γ w w' a a' := ⟨[], by simpa using hd, by simp, fun D hD => by simp at hD⟩
theorem Marks.trans {γ1 γ2 : G} {h1 h2 : Heap} {w1 w2 : World} {a1 a2 : Act} (m1 : Marks γ1 w w1 a a1) (hs : w.heap.size ≤ w1.heap.size) (p : Post γ1 h1 w1 γ2 h2 w2) (m2 : Marks γ2 w1 w2 a1 a2) : Marks γ2 w w2 a a2 := by
  obtain ⟨D1, e1, n1, f1⟩ := m1
  obtain ⟨D2, e2, n2, f2⟩ := m2
  have lt : ∀ D ∈ D1, D < w1.heap.size := fun D hD => by
    have := (f1 D hD).2.1
    rcases Nat.lt_or_ge D w1.heap.size with k | k
    · exact k
    · rw [Array.getElem?_eq_none k] at this; cases this
  refine ⟨D2 ++ D1, by rw [e2, e1, List.map_append, List.append_assoc], List.nodup_append.2 ⟨n2, n1, fun x hx y hy e => ?_⟩, fun D hD => ?_⟩
  · have := lt y hy; have := (f2 x hx).1; omega
  · rcases List.mem_append.1 hD with k | k
    · obtain ⟨q1, q2, q3⟩ := f2 D k
      exact ⟨by omega, q2, q3⟩
    · obtain ⟨q1, q2, q3⟩ := f1 D k
      refine ⟨q1, (p.keep D (lt D k) q3).trans q2, fun b g l hl => ?_⟩
      rcases p.fresh b g l hl with ⟨g0, l0, h0, e⟩ | k'
      · exact e ▸ q3 b g0 l0 h0
      · have := lt D k; omega
theorem Sim.off (s : Sim γ h w) {D : Nat} (hD : ∃ x, w.heap[D]? = some (.deferred x)) (hu : ∀ b g l, γ.mu b g = some l → l.r ≠ D) (o : Obj) : Sim γ h (w.putObj D o) := by
  have hsz : (w.putObj D o).heap.size = w.heap.size := by simp [World.putObj]
  refine ⟨s.dom, s.mud, fun b g l hl => by rw [hsz]; exact s.lt b g l hl, s.inj, fun b x hx => (s.obj b x hx).of (.refl γ) (fun _ => rfl) fun g l hl => World.putObj_heap_other (hu b g l hl), fun r o' v hv => ?_⟩
  obtain ⟨h1, h2⟩ := s.ro r o' v hv
  have hr : r ≠ D := by
    rintro rfl
    obtain ⟨x, hx⟩ := hD
    simp [World.cell?, hx] at h1
  exact ⟨(cell?_eq_of_heap (a := ⟨r, o', Option.none⟩) (World.putObj_heap_other hr)).trans h1, h2⟩
theorem step_mark {fr : Frame} {w w' : World} {r : Nat} {ds calls : List Deferred}
    (hm : fr.mode = .returning) (hd : fr.defers = markOf r :: ds) (hk : (Instr.takeDeferred r).run P w = .ok calls w') : step P (lone fr cs w) = .next (lone { fr with defers := calls ++ ds } cs w') := by
  refine step_lone_go ?_
  simp [stepG, unwind, hm, hd, markOf, Sem.runT_eq, hk, GStep.bare_after]
theorem leave_marks : ∀ (Ds : List Nat) (w : World) (fr : Frame), Sim γ h w → fr.mode = .returning → fr.defers = Ds.map markOf → Ds.Nodup → (∀ D ∈ Ds, w.heap[D]? = some (.deferred (some [])) ∧ ∀ b g l, γ.mu b g = some l → l.r ≠ D) →
    ∃ w', Steps P (lone fr cs w) (lone { fr with defers := [] } cs w') ∧ Sim γ h w' ∧ w'.heap.size = w.heap.size ∧ w'.os = w.os ∧ w'.tape = w.tape ∧ w'.output = w.output ∧ ∀ r, (r ∉ Ds) → w'.heap[r]? = w.heap[r]?
  | [], w, fr, s, hm, hd, _, _ => by
    refine ⟨w, ?_, s, rfl, rfl, rfl, rfl, fun _ _ => rfl⟩
    have : { fr with defers := [] } = fr := by cases fr; simp at hd; subst hd; rfl
    rw [this]
    exact .refl ..
  | D :: Ds, w, fr, s, hm, hd, hn, hf => by
    obtain ⟨q1, q2⟩ := hf D (by simp)
    have hst := step_mark (P := P) (cs := cs) hm (ds := Ds.map markOf) hd (run_takeDeferred (P := P) q1)
    rw [List.nodup_cons] at hn
    obtain ⟨w', a1, a2, a3, a4, a5, a6, a7⟩ := leave_marks Ds (w.putObj D (.deferred Option.none)) { fr with defers := [] ++ Ds.map markOf } (s.off ⟨_, q1⟩ q2 _) hm (by simp) hn.2
      fun D' hD' => ⟨(World.putObj_heap_other (by rintro rfl; exact hn.1 hD')).trans (hf D' (by simp [hD'])).1, (hf D' (by simp [hD'])).2⟩
    exact ⟨w', .head hst a1, a2, a3.trans (by simp [World.putObj]), a4, a5, a6, fun r hr => (a7 r fun k => hr (by simp [k])).trans (World.putObj_heap_other fun e => hr (by simp [e]))⟩
theorem Post.leave {γ0 : G} {h0 : Heap} {w0 : World} (p : Post γ0 h0 w0 γ h w) (Ds : List Nat) (hD : ∀ D ∈ Ds, w0.heap.size ≤ D) (s : Sim γ h w') (hz : w'.heap.size = w.heap.size) (ho : w'.os = w.os) (ht : w'.tape = w.tape) (hp : w'.output = w.output)
    (hk : ∀ r, (r ∉ Ds) → w'.heap[r]? = w.heap[r]?) : Post γ0 h0 w0 γ h w' :=
  ⟨p.le, s, p.next, p.born, p.fresh, by rw [hz]; exact p.size, ho.trans p.os, ht.trans p.tape, hp.trans p.output, fun r hr hn => (hk r fun k => by have := hD r k; omega).trans (p.keep r hr hn)⟩
end
end Go.Ev

namespace Go.Ev
set_option linter.unusedSimpArgs false
set_option linter.unusedVariables false
section
variable {P : Program} {γ : G} {h h' : Heap} {w : World}

theorem wanted_eq {n : Nat} {ops : Array Oper} {tm : Tmps} {a : Act} (ht : RT γ n tm a.tmps) (o : Oper) : Region.wanted o (yielded ops a.tmps) = wantedE ops tm o := by
  unfold Region.wanted wantedE
  cases hg : o.guard with
  | none => rfl
  | some g =>
    obtain ⟨j, want⟩ := g
    simp only [yielded]
    cases hd : (ops[j]?).bind (·.dst) with
    | none => simp
    | some d =>
      simp only [Option.bind_some]
      have hr := ht.2 d
      cases hx : a.tmps[d]? with
      | none =>
        have : a.tmps.getD d Go.undef = Go.undef := by simp [Array.getD_eq_getD_getElem?, hx]
        rw [this] at hr
        generalize Tmps.get tm d = v at hr
        unfold Go.undef at hr
        cases hr
        rfl
      | some X =>
        have : a.tmps.getD d Go.undef = X := by simp [Array.getD_eq_getD_getElem?, hx]
        rw [this] at hr
        generalize Tmps.get tm d = v at hr
        cases hr <;> simp

theorem RT.put {n : Nat} {tm tm' : Tmps} {a : Act} (ht : RT γ n tm a.tmps) {dst : Option Tmp} {v : LV} {X : Value} (hp : putE n tm dst v = some tm') (hv : RV γ v X) : RT γ n tm' (a.put dst X).tmps := by
  unfold putE at hp
  cases dst with
  | none => cases hp; exact ht
  | some d =>
    simp only at hp
    split at hp
    · rename_i hlt
      rw [blt_eq, decide_eq_true_iff] at hlt
      cases hp
      refine ⟨by simp [Act.put, ht.1], fun t => ?_⟩
      simp only [Act.put, Tmps.get]
      by_cases e : d = t
      · subst e
        rw [T.get_set_same]
        have : (a.tmps.setIfInBounds d X).getD d Go.undef = X := by
          simp [Array.getD_eq_getD_getElem?, ht.1, hlt]
        rw [this]
        exact hv
      · rw [T.get_set_ne _ _ e]
        have : (a.tmps.setIfInBounds d X).getD t Go.undef = a.tmps.getD t Go.undef := by
          simp [Array.getD_eq_getD_getElem?, Array.getElem?_setIfInBounds_ne e]
        rw [this]
        exact ht.2 t
    · cases hp
theorem put_defers (a : Act) (dst : Option Tmp) (X : Value) : (a.put dst X).defers = a.defers := by cases dst <;> rfl

/-- The operations of a region, one behind the other, as they stand. -/
theorem evOps_sound {call : CallF} {yld : Nat → List LV → Heap → Option (LV × Heap)} (hcall : SoundCall P call) (hyld : SoundYld P yld) {n : Nat} {ops : Array Oper} :
    ∀ (os : List Oper) (is : List Nat) (tm tm' : Tmps) (h h' : Heap) (γ : G) (w : World) (a : Act), evOps P call yld n ops os tm h = some (tm', h') → os.length = is.length → (∀ (j : Nat) i, is[j]? = some i → ops[i]? = os[j]?) →
      Sim γ h w → RT γ n tm a.tmps → ∀ (b : Base) (k : List Item) (cs : List Frame), ∃ a' w' γ', Steps P (lone (b.at a (.inRegion ops is :: k)) cs w) (lone (b.at a' k) cs w') ∧ a'.defers = a.defers ∧ Post γ h w γ' h' w' ∧ RT γ' n tm' a'.tmps
  | [], is, tm, tm', h, h', γ, w, a, he, hl, _, s, ht, b, k, cs => by
    have : is = [] := by cases is with | nil => rfl | cons _ _ => simp at hl
    subst this
    simp only [evOps] at he
    cases he
    exact ⟨a, w, γ, .one stepR_region_end, rfl, .refl s, ht⟩
  | o :: os, [], tm, tm', h, h', γ, w, a, he, hl, _, s, ht, b, k, cs => by simp at hl
  | o :: os, i :: is, tm, tm', h, h', γ, w, a, he, hl, hi, s, ht, b, k, cs => by
    have ho : ops[i]? = some o := hi 0 i rfl
    have hrest : ∀ (j : Nat) i, is[j]? = some i → ops[i]? = os[j]? := fun j i' hj => by simpa using hi (j + 1) i' (by simpa using hj)
    have hlen : os.length = is.length := by simpa using hl
    unfold evOps at he
    have hw := wanted_eq (ops := ops) ht o
    split at he
    · rename_i hwant
      obtain ⟨vh, hop, he⟩ := Option.bind_eq_some_iff.1 he
      obtain ⟨v, h1⟩ := vh
      obtain ⟨tm1, hput, he⟩ := Option.bind_eq_some_iff.1 he
      obtain ⟨X, w1, ⟨γ1, hp1, hv1⟩, hst⟩ := evOp_good hcall hyld s ht hop b k cs ops i is ho (hw.trans hwant)
      have ht1 : RT γ1 n tm1 (a.put o.dst X).tmps := RT.put (ht.mono hp1.le) hput hv1
      obtain ⟨a', w', γ', hst', hd', hp', ht'⟩ := evOps_sound hcall hyld os is tm1 tm' h1 h' γ1 w1 (a.put o.dst X) he hlen hrest hp1.sim ht1 b k cs
      exact ⟨a', w', γ', hst.trans hst', hd'.trans (put_defers ..), hp1.trans hp', ht'⟩
    · rename_i hwant
      obtain ⟨tm1, hput, he⟩ := Option.bind_eq_some_iff.1 he
      have ht1 : RT γ n tm1 (a.put o.dst Go.undef).tmps := RT.put ht hput RV_undef
      obtain ⟨a', w', γ', hst', hd', hp', ht'⟩ := evOps_sound hcall hyld os is tm1 tm' h h' γ w (a.put o.dst Go.undef) he hlen hrest s ht1 b k cs
      refine ⟨a', w', γ', .head ?_ hst', hd'.trans (put_defers ..), hp', ht'⟩
      have := stepR_op_skip (P := P) (b := b) (a := a) (k := k) (cs := cs) (w := w) (ops := ops) (i := i) (rest := is) (by simp [ho, hw, hwant])
      rw [ho] at this
      exact this

/-- Where a piece of code comes to. -/
def LArr (P : Program) (m : Machine) (b : Base) (k : List Item) (cs : List Frame) : LExit → Act → World → Prop
  | .normal, a, w => Steps P m (lone (b.at a k) cs w)
  | .exit id, a, w => ∃ k0, exitTo id k0 = exitTo id k ∧ Steps P m (lone (b.at a (.code (.exit id) :: k0)) cs w)
  | .ret, a, w => ∃ k0, Steps P m (lone (b.at a (.code .ret :: k0)) cs w)
theorem LArr.of_steps {m m₁ : Machine} {b : Base} {k : List Item} {cs : List Frame} {e : LExit} {a : Act} (hs : Steps P m m₁) (hl : LArr P m₁ b k cs e a w) : LArr P m b k cs e a w := by
  cases e with
  | normal => exact hs.trans hl
  | exit id => obtain ⟨k0, h1, h2⟩ := hl; exact ⟨k0, h1, hs.trans h2⟩
  | ret => obtain ⟨k0, h2⟩ := hl; exact ⟨k0, hs.trans h2⟩
/-- An item that lets an exit by. -/
theorem LArr.pass {m : Machine} {b : Base} {x : Item} {k : List Item} {cs : List Frame} {e : LExit} {a : Act} (hx : ∀ id, exitTo id (x :: k) = exitTo id k) (he : e ≠ .normal) (hl : LArr P m b (x :: k) cs e a w) : LArr P m b k cs e a w := by
  cases e with
  | normal => exact absurd rfl he
  | exit id => obtain ⟨k0, h1, h2⟩ := hl; exact ⟨k0, h1.trans (hx id), h2⟩
  | ret => exact hl

def CodeOk (P : Program) (c : Code) (a : Act) (w : World) (R : LExit → Act → World → Prop) : Prop :=
  ∀ (b : Base) (k : List Item) (cs : List Frame), (b.round = none ∨ noRange c = true) → ∃ e a' w', R e a' w' ∧ LArr P (lone (b.at a (.code c :: k)) cs w) b k cs e a' w'
abbrev CodeGood (γ : G) (n : Nat) (h : Heap) (w : World) (a : Act) (e : LExit) (tm' : Tmps) (h' : Heap) : LExit → Act → World → Prop :=
  fun e2 a' w' => e2 = e ∧ ∃ γ', Post γ h w γ' h' w' ∧ RT γ' n tm' a'.tmps ∧ Marks γ' w w' a a'
def SoundRun (P : Program) (run : Run) : Prop := ∀ n c tm h e tm' h', run n c tm h = some (e, tm', h') → ∀ (γ : G) (w : World) (a : Act), Sim γ h w → RT γ n tm a.tmps → CodeOk P c a w (CodeGood γ n h w a e tm' h')
/-- A region that draws its order. -/
def SoundDraw (P : Program) (call : CallF) (yld : Nat → List LV → Heap → Option (LV × Heap)) : Prop :=
  ∀ n ops tm h tm' h', evDraw P call yld n ops tm h = some (tm', h') → ∀ (γ : G) (w : World) (a : Act), Sim γ h w → RT γ n tm a.tmps → ∀ (t : Nat) (b : Base) (k : List Item) (cs : List Frame),
    ∃ a' w' γ', Steps P (lone (b.at a (.inRegion ops (Region.linearise .any ops t) :: k)) cs w) (lone (b.at a' k) cs w') ∧ a'.defers = a.defers ∧ Post γ h w γ' h' w' ∧ RT γ' n tm' a'.tmps

theorem bindParams_rel {n : Nat} : ∀ (ps : List Tmp) (vs : List LV) (xs : List Value) (tm tm' : Tmps) (ts : Array Value), bindParams n ps vs tm = some tm' → RVs γ vs xs → RT γ n tm ts →
    xs.length = ps.length ∧ RT γ n tm' ((ps.zip xs).foldl (fun tmps (t, a) => tmps.setIfInBounds t a) ts)
  | [], [], xs, tm, tm', ts, he, hx, ht => by
    cases he
    have : xs = [] := by have := hx.1; simpa using this
    subst this
    exact ⟨rfl, ht⟩
  | p :: ps, v :: vs, xs, tm, tm', ts, he, hx, ht => by
    unfold bindParams at he
    obtain ⟨tm1, h1, he⟩ := Option.bind_eq_some_iff.1 he
    cases xs with
    | nil => have := hx.1; simp at this
    | cons x xs =>
      have hv : RV γ v x := hx.2 0 v x rfl rfl
      have hr : RVs γ vs xs := ⟨by have := hx.1; simpa using this, fun i v x q1 q2 => hx.2 (i + 1) v x (by simpa using q1) (by simpa using q2)⟩
      have := RT.put (a := ⟨ts, []⟩) ht h1 hv
      obtain ⟨l1, l2⟩ := bindParams_rel ps vs xs tm1 tm' _ he hr this
      exact ⟨by simp [l1], by simpa [Act.put] using l2⟩
  | [], _ :: _, _, _, _, _, he, _, _ => by cases he
  | _ :: _, [], _, _, _, _, he, _, _ => by cases he

theorem yieldE_sound {run : Run} (hrun : SoundRun P run) : SoundYld P (yieldE run) := by
  intro l args h r h' he γ w xs loc s hx hm
  unfold yieldE at he
  split at he
  · rename_i rec hrec
    obtain ⟨R, hR, e1, e2, e3, e4, e5, hrt⟩ := loop_obj s hrec hm
    split at he
    · cases he
    · rename_i hnr
      rw [Bool.and_eq_true] at hnr
      obtain ⟨tm0, hb, he⟩ := Option.bind_eq_some_iff.1 he
      obtain ⟨⟨ea, tm1, h1⟩, hra, he⟩ := Option.bind_eq_some_iff.1 he
      obtain ⟨hl, ht0⟩ := bindParams_rel rec.params args xs.toList rec.tmps tm0 R.tmps hb hx hrt
      have hy := run_yield (P := P) (args := xs) hR (by rw [← e3] at hl; simpa using hl)
      refine ⟨R.fn, _, R.assign, R.body, w, hy, fun c cs => ?_⟩
      have hfold : (R.params.zip xs).foldl (fun tmps (t, a) => tmps.setIfInBounds t a) R.tmps = (rec.params.zip xs.toList).foldl (fun tmps (t, a) => tmps.setIfInBounds t a) R.tmps := by
        rw [← e3, ← Array.foldl_toList, Array.toList_zip]
      rw [hfold]
      generalize (rec.params.zip xs.toList).foldl (fun tmps (t, a) => tmps.setIfInBounds t a) R.tmps = ts0 at ht0
      let b : Base := ⟨R.fn, .normal, some loc.r⟩
      have hfr : Frame.round loc.r R.fn ts0 R.assign R.body .normal = b.at ⟨ts0, []⟩ [.code R.assign, .beginRound, .code R.body] := by
        simp [Frame.round, Base.at, b]
      rw [hfr, e4, e5]
      obtain ⟨e6, a1, w1, ⟨rfl, γ1, hp1, ht1, _⟩, harr⟩ := hrun _ _ _ _ _ _ _ hra γ w ⟨ts0, []⟩ s ht0 b [.beginRound, .code rec.body] (c :: cs) (.inr hnr.1)
      cases e6 with
      | exit id => cases he
      | ret => cases he
      | normal =>
        simp only at he
        split at he
        · rename_i r1 hr1
          have hm1 := hp1.le.mu _ _ _ hm
          obtain ⟨R1, hR1, f1, f2, f3, f4, f5, _⟩ := loop_obj hp1.sim hr1 hm1
          split at he
          · rename_i hst
            obtain ⟨⟨eb, tm2, h2⟩, hrb, he⟩ := Option.bind_eq_some_iff.1 he
            have hbr := run_beginRound (P := P) hR1 (f1.trans hst)
            have hp2 : Post γ1 h1 w1 γ1 (h1.set l (.loop { r1 with state := .busy })) (w1.putObj loc.r (.loop { R1 with state := .busy })) := by
              exact (f2 ▸ post_setLoop hp1.sim hr1 hm1 hR1 .busy R1.pending : Post γ1 h1 w1 γ1 (h1.set l (.loop { r1 with state := .busy, pending := r1.pending })) (w1.putObj loc.r (.loop { R1 with state := .busy, pending := R1.pending })))
            obtain ⟨e7, a2, w2, ⟨rfl, γ2, hp3, ht2, _⟩, harr2⟩ := hrun _ _ _ _ _ _ _ hrb γ1 _ a1 hp2.sim ht1 b [] (c :: cs) (.inr hnr.2)
            have hs1 := (Steps.trans harr (.one (step_beginR (b := b) rfl hbr)))
            unfold endRoundE at he
            split at he
            · rename_i r2 hr2
              have hm2 := hp3.le.mu _ _ _ hm1
              obtain ⟨R2, hR2, _⟩ := loop_obj hp3.sim hr2 hm2
              have hpp := (hp1.trans hp2).trans hp3
              cases e7 with
              | normal =>
                cases he
                exact ⟨.bool true, _, ⟨γ2, hpp.trans (post_setLoop hp3.sim hr2 hm2 hR2 .ready none), .bool true⟩, hs1.trans (Steps.trans harr2 (.one (step_roundEnd rfl rfl (run_endRound (P := P) none hR2))))⟩
              | ret =>
                cases he
                obtain ⟨k0, hk⟩ := harr2
                exact ⟨.bool false, _, ⟨γ2, hpp.trans (post_setLoop hp3.sim hr2 hm2 hR2 .done (some .ret)), .bool false⟩, hs1.trans (hk.trans (.one (step_roundRet rfl rfl (run_endRound (P := P) (some .ret) hR2))))⟩
              | exit id =>
                cases he
                obtain ⟨k0, hk0, hk⟩ := harr2
                exact ⟨.bool false, _, ⟨γ2, hpp.trans (post_setLoop hp3.sim hr2 hm2 hR2 .done (some (.exit id))), .bool false⟩, hs1.trans (hk.trans (.one (step_roundExit rfl rfl (hk0.trans rfl) (run_endRound (P := P) (some (.exit id)) hR2))))⟩
            · cases he
          · cases he
        · cases he
  · cases he

theorem ofArgs_get : ∀ (vs : List LV) (i : Nat) (tm : Tmps) (t : Nat), Tmps.get (ofArgs vs i tm) t = if i ≤ t ∧ t < i + vs.length then (vs[t - i]?).getD LV.undef else Tmps.get tm t
  | [], i, tm, t => by rw [if_neg (by simp)]; rfl
  | v :: vs, i, tm, t => by
    unfold ofArgs
    rw [ofArgs_get vs (i + 1) (T.set tm i v) t]
    by_cases h1 : i + 1 ≤ t ∧ t < i + 1 + vs.length
    · rw [if_pos h1, if_pos (by simp; omega)]
      obtain ⟨m, rfl⟩ : ∃ m, t = i + 1 + m := ⟨t - (i + 1), by omega⟩
      rw [show i + 1 + m - (i + 1) = m by omega, show i + 1 + m - i = m + 1 by omega]
      simp
    · rw [if_neg h1]
      by_cases h2 : t = i
      · subst h2
        rw [if_pos (by simp)]
        simp [Tmps.get, T.get_set_same]
      · rw [if_neg (by simp; omega)]
        simp only [Tmps.get]
        rw [T.get_set_ne _ _ (fun e => h2 e.symm)]

theorem RT_args {args : List LV} {xs : Array Value} {n : Nat} (hx : RVs γ args xs.toList) (hn : args.length ≤ n) : RT γ n (ofArgs args 0 .nil) (xs ++ Array.replicate (n - xs.size) Go.undef) := by
  have hl : xs.size = args.length := by have := hx.1; simpa using this
  refine ⟨by simp; omega, fun t => ?_⟩
  rw [ofArgs_get]
  by_cases ht : t < args.length
  · rw [if_pos (by omega)]
    have h1 : (args[t - 0]?).getD LV.undef = args[t] := by simp [ht]
    have h2 : (xs ++ Array.replicate (n - xs.size) Go.undef).getD t Go.undef = xs[t]'(by omega) := by
      rw [Array.getD_eq_getD_getElem?, Array.getElem?_append_left (by omega), Array.getElem?_eq_getElem (by omega)]; rfl
    rw [h1, h2]
    exact hx.2 t _ _ (by simp [ht]) (by first | (simp; done) | (simp; omega))
  · rw [if_neg (by omega)]
    have h1 : Tmps.get .nil t = LV.undef := by simp [Tmps.get, T.get_nil]
    have h2 : (xs ++ Array.replicate (n - xs.size) Go.undef).getD t Go.undef = Go.undef := by
      rw [Array.getD_eq_getD_getElem?, Array.getElem?_append_right (by omega)]
      rw [Array.getElem?_replicate]
      split <;> rfl
    rw [h1, h2]
    exact RV_undef

theorem results_res (s : Sim γ h w) {n : Nat} {tm : Tmps} {ts : Array Value} (ht : RT γ n tm ts) : ∀ (rs : List ResultVar) (vs : List LV), resultsE P tm h rs = some vs →
    ∃ xs : List Value, (rs.mapM fun | .tmp t => pure (ts.getD t Go.undef) | .cell a t => do loadVar t (← asAddr (ts.getD a Go.undef)) : Sem (List Value)).run P w = .ok xs w ∧ RVs γ vs xs
  | [], vs, he => by simp only [resultsE] at he; cases he; exact ⟨[], rfl, RVs_nil⟩
  | .tmp t :: rs, vs, he => by
    unfold resultsE at he
    obtain ⟨us, hu, e⟩ := Option.map_eq_some_iff.1 he
    cases e
    obtain ⟨xs, h1, h2⟩ := results_res s ht rs us hu
    exact ⟨_, by simp only [List.mapM_cons, pure_bind, Sem.run_bind, h1, Result.andThen_ok, Sem.run_pure], RVs_cons (ht.2 t) h2⟩
  | .cell a t :: rs, vs, he => by
    unfold resultsE at he
    obtain ⟨u, hu, he⟩ := Option.bind_eq_some_iff.1 he
    obtain ⟨us, hus, e⟩ := Option.map_eq_some_iff.1 he
    cases e
    obtain ⟨xs, h1, h2⟩ := results_res s ht rs us hus
    obtain ⟨X, h3, h4⟩ := loadAt_res (P := P) s hu (ht.2 a)
    refine ⟨X :: xs, ?_, RVs_cons h4 h2⟩
    have h5 : (do loadVar t (← asAddr (ts.getD a Go.undef)) : Sem Value).run P w = .ok X w := by
      have hr := ht.2 a
      generalize ts.getD a Go.undef = A at *
      generalize Tmps.get tm a = av at *
      unfold loadAt at hu
      split at hu
      · cases hr; exact h3
      · cases hr; exact h3
      · cases hu
    simp only [List.mapM_cons, Sem.run_bind] at h5 ⊢
    cases ha : (asAddr (ts.getD a Go.undef)).run P w with
    | halt x w' => rw [ha] at h5; cases h5
    | ok ad w' =>
      rw [ha] at h5
      simp only [Result.andThen_ok] at h5 ⊢
      rw [h5]
      simp only [Result.andThen_ok, h1, Sem.run_pure]

theorem array_mapM_run {α β : Type} (f : α → Sem β) (xs : Array α) : (xs.mapM f).run P w = (((xs.toList.mapM f) >>= fun l => pure l.toArray : Sem (Array β))).run P w := by
  rw [Array.mapM_eq_mapM_toList]
  simp

theorem callE_sound {ov : Ov} {run : Run} (hov : ∀ f F, ov f = some F → ∀ args h r h', F args h = some (r, h') → ∀ (γ : G) (w : World) (xs : Array Value), Sim γ h w → RVs γ args xs.toList →
      CallArr P f xs w fun X w' => ∃ γ', Post γ h w γ' h' w' ∧ RV γ' r X)
    (hnames : ∀ (f : FuncId) (fn : Func), P.funcs[f]? = some fn → fn.body.isSome → fn.name ≠ "runtime.NumGoroutine") (hrun : SoundRun P run) : SoundCall P (callE P ov run) := by
  intro f args h r h' he γ w xs s hx
  unfold callE at he
  split at he
  · rename_i F hF
    exact hov f F hF args h r h' he γ w xs s hx
  · split at he
    · rename_i fn hfn
      split at he
      · rename_i c hb
        split at he
        · rename_i hle
          rw [ble_eq, decide_eq_true_iff] at hle
          obtain ⟨⟨e, tm, h1⟩, hr, he⟩ := Option.bind_eq_some_iff.1 he
          right
          have hname := hnames f fn hfn (by simp [hb])
          refine ⟨?_, ?_⟩
          · unfold callFunc
            simp only [Sem.run_bind, run_program, Result.andThen_ok, hfn]
            rw [if_neg (by simpa using hname)]
            simp [hb]
          · intro cs
            have hsz : xs.size = args.length := by have := hx.1; simpa using this
            have ht := RT_args (γ := γ) hx hle
            let a0 : Act := { tmps := xs ++ Array.replicate (fn.ntmps - xs.size) Go.undef, defers := [] }
            let b : Base := ⟨f, .normal, none⟩
            have henter : Frame.enter P f xs .normal = b.at a0 [.code c] := by
              simp [Frame.enter, Base.at, hfn, hb, b, a0]
            obtain ⟨e2, a', w', ⟨rfl, γ', hp, ht', Ds, hDe, hDn, hDf⟩, harr⟩ := hrun _ _ _ _ _ _ _ hr γ w a0 s ht b [] cs (.inl rfl)
            rw [← henter] at harr
            have fin : ∀ vs, resultsE P tm h1 fn.results.toList = some vs → (match vs with | [v] => v | vs => LV.tuple vs, h1) = (r, h') →
                ∀ w', Sim γ' h1 w' → ∃ X, (results fn a'.tmps).run P w' = .ok X w' ∧ RV γ' r X ∧ h1 = h' := by
              intro vs hvs he' w' sim
              obtain ⟨ys, h3, h4⟩ := results_res (P := P) sim ht' _ _ hvs
              have h5 : (results fn a'.tmps).run P w' = .ok (if h : ys.toArray.size = 1 then ys.toArray[0] else .tuple ys.toArray) w' := by
                unfold results
                rw [Sem.run_bind, array_mapM_run, Sem.run_bind]
                have h3' := h3
                erw [h3']
                rfl
              refine ⟨_, h5, ?_, (Prod.mk.inj he').2⟩
              have hl := h4.1
              match vs, ys, h4, he' with
              | [v], [Y], h4, he' =>
                have hrv : v = r := (Prod.mk.inj he').1
                rw [← hrv]
                have := h4.2 0 v Y rfl rfl
                simpa using this
              | [v], [], h4, _ => have := h4.1; simp at this
              | [v], _ :: _ :: _, h4, _ => have := h4.1; simp at this
              | [], ys, h4, he' =>
                have : r = .tuple [] := ((Prod.mk.inj he').1).symm
                subst this
                have : ys = [] := by have := h4.1; simpa using this
                subst this
                exact .tuple [] _ rfl fun i v x q1 _ => by simp at q1
              | v1 :: v2 :: vs, ys, h4, he' =>
                have : r = .tuple (v1 :: v2 :: vs) := ((Prod.mk.inj he').1).symm
                subst this
                have hne : ¬ ys.toArray.size = 1 := by have := h4.1; simp at this ⊢; omega
                rw [dif_neg hne]
                exact .tuple _ _ (by have := h4.1; simpa using this) fun i v x q1 q2 => h4.2 i v x q1 (by simpa using q2)
            have hdef : a'.defers = Ds.map markOf := by simpa [a0] using hDe
            have off : ∀ (m : Machine) (todo : List Item), Steps P m (lone { b.at a' todo with mode := .returning } cs w') → ∃ w2, Steps P m (lone { b.at a' todo with mode := .returning, defers := [] } cs w2) ∧ Post γ h w γ' h1 w2 := fun m todo hst => by
              obtain ⟨w2, a1, a2, a3, a4, a5, a6, a7⟩ := leave_marks (P := P) (cs := cs) Ds w' { b.at a' todo with mode := .returning } hp.sim rfl hdef hDn fun D hD => (hDf D hD).2
              exact ⟨w2, hst.trans a1, hp.leave Ds (fun D hD => (hDf D hD).1) a2 a3 a4 a5 a6 a7⟩
            cases e2 with
            | normal =>
              obtain ⟨vs, hvs, he'⟩ := Option.map_eq_some_iff.1 he
              obtain ⟨w2, hst2, hp2⟩ := off _ _ (Steps.trans harr (.one (stepR_end rfl)))
              obtain ⟨X, hX, hr2, rfl⟩ := fin vs hvs he' w2 hp2.sim
              exact ⟨X, w2, _, ⟨γ', hp2, hr2⟩, hst2, rfl, ⟨rfl, rfl, rfl, fn, hfn, hX⟩⟩
            | ret =>
              obtain ⟨vs, hvs, he'⟩ := Option.map_eq_some_iff.1 he
              obtain ⟨k0, hst⟩ := harr
              obtain ⟨w2, hst2, hp2⟩ := off _ _ (hst.trans (.one (stepR_ret rfl)))
              obtain ⟨X, hX, hr2, rfl⟩ := fin vs hvs he' w2 hp2.sim
              exact ⟨X, w2, _, ⟨γ', hp2, hr2⟩, hst2, rfl, ⟨rfl, rfl, rfl, fn, hfn, hX⟩⟩
            | exit id => cases he
        · cases he
      · cases he
    · cases he

/-- A loop's next round is as the loop from its head. -/
theorem steps_tail {m m1 m' : Machine} (hs : step P m = .next m1) (h : Steps P m m') (hne : m ≠ m') : Steps P m1 m' := by
  obtain ⟨n, hn⟩ := h
  cases n with
  | zero => simp [runN] at hn; exact absurd hn hne
  | succ n => simp only [runN, hs] at hn; exact ⟨n, hn⟩
theorem lone_ne {b : Base} {a a' : Act} {t t' : List Item} {cs : List Frame} {w w' : World} (h : t ≠ t') : lone (b.at a t) cs w ≠ lone (b.at a' t') cs w' := by
  intro e
  simp only [lone, Machine.mk.injEq] at e
  have := e.2.1
  simp [Base.at] at this
  exact h this.2.1
theorem loop_again {x : Code} {b : Base} {a a2 : Act} {k : List Item} {cs : List Frame} {w w2 : World} {e : LExit} (h : LArr P (lone (b.at a (.code (.loop x) :: k)) cs w) b k cs e a2 w2) : LArr P (lone (b.at a (.inLoop x :: k)) cs w) b k cs e a2 w2 := by
  have hs : step P (lone (b.at a (.code (.loop x) :: k)) cs w) = .next (lone (b.at a (.code x :: .inLoop x :: k)) cs w) := stepR_loop
  cases e with
  | normal => exact .head stepR_inLoop (steps_tail hs h (lone_ne (by intro e; have := congrArg List.length e; simp at this)))
  | exit id => obtain ⟨k0, h1, h2⟩ := h; exact ⟨k0, h1, .head stepR_inLoop (steps_tail hs h2 (lone_ne (by simp)))⟩
  | ret => obtain ⟨k0, h2⟩ := h; exact ⟨k0, .head stepR_inLoop (steps_tail hs h2 (lone_ne (by simp)))⟩

theorem stepE_sound {ov : Ov} {run : Run} (hcall : SoundCall P (callE P ov run)) (hdraw : SoundDraw P (callE P ov run) (yieldE run)) (hmix : P.follows .mixedOrders = true) (hrun : SoundRun P run) : SoundRun P (stepE P ov run) := by
  intro n c tm h e tm' h' he γ w a s ht b k cs hro
  cases c <;> simp only [stepE] at he
  case skip =>
    cases he
    exact ⟨.normal, a, w, ⟨rfl, γ, .refl s, ht, .none rfl⟩, .one stepR_skip⟩
  case label l =>
    cases he
    exact ⟨.normal, a, w, ⟨rfl, γ, .refl s, ht, .none rfl⟩, .one stepR_label⟩
  case region id ops draw =>
    cases draw with
    | false =>
      obtain ⟨⟨tm1, h1⟩, hops, e0⟩ := Option.map_eq_some_iff.1 he
      simp only [Prod.mk.injEq] at e0
      obtain ⟨rfl, rfl, rfl⟩ := e0
      have hidx : ∀ (j : Nat) (i : Nat), (List.range ops.size)[j]? = some i → ops[i]? = ops.toList[j]? := by
        intro j i hj
        have : i = j := by
          by_cases hlt : j < ops.size
          · simp [hlt] at hj; exact hj.symm
          · rw [List.getElem?_eq_none (by simp; omega)] at hj; cases hj
        subst this
        simp
      obtain ⟨a', w', γ', hst, hd, hp, ht'⟩ := evOps_sound hcall (yieldE_sound hrun) ops.toList (List.range ops.size) tm _ h _ γ w a hops (by simp) hidx s ht b k cs
      exact ⟨.normal, a', w', ⟨rfl, γ', hp, ht', .none hd⟩, .head stepR_region hst⟩
    | true =>
      obtain ⟨⟨tm1, h1⟩, hops, e0⟩ := Option.map_eq_some_iff.1 he
      simp only [Prod.mk.injEq] at e0
      obtain ⟨rfl, rfl, rfl⟩ := e0
      have sd := (Post.drew s).sim
      have hsched : Region.schedule (P.follows .mixedOrders) ops (w.tape w.drawn (.order b.fn id)) = Region.linearise .any ops (w.tape w.drawn (.order b.fn id)) := by
        simp [Region.schedule, hmix]
      obtain ⟨a', w', γ', hst, hd, hp, ht'⟩ := hdraw n ops tm h _ _ hops γ w.drew a sd ht (w.tape w.drawn (.order b.fn id)) b k cs
      refine ⟨.normal, a', w', ⟨rfl, γ', (Post.drew s).trans hp, ht', .none hd⟩, .head stepR_region_draw ?_⟩
      rw [hsched]
      exact hst
  case seq x y =>
    obtain ⟨⟨e1, tm1, h1⟩, hx, he⟩ := Option.bind_eq_some_iff.1 he
    obtain ⟨e2, a1, w1, ⟨he2, γ1, hp1, ht1, hd1⟩, harr⟩ := hrun _ _ _ _ _ _ _ hx γ w a s ht b (.code y :: k) cs (hro.imp (fun q => q) fun q => by simp only [noRange, Bool.and_eq_true] at q; exact q.1)
    subst he2
    cases e2 with
    | normal =>
      obtain ⟨e3, a2, w2, ⟨he3, γ2, hp2, ht2, hd2⟩, harr2⟩ := hrun _ _ _ _ _ _ _ he γ1 w1 a1 hp1.sim ht1 b k cs (hro.imp (fun q => q) fun q => by simp only [noRange, Bool.and_eq_true] at q; exact q.2)
      exact ⟨e3, a2, w2, ⟨he3, γ2, hp1.trans hp2, ht2, hd1.trans hp1.size hp2 hd2⟩, .of_steps (.head stepR_seq harr) harr2⟩
    | exit i =>
      cases he
      exact ⟨.exit i, a1, w1, ⟨rfl, γ1, hp1, ht1, hd1⟩, .of_steps (.one stepR_seq) (.pass (x := .code y) (fun _ => rfl) (by simp) harr)⟩
    | ret =>
      cases he
      exact ⟨.ret, a1, w1, ⟨rfl, γ1, hp1, ht1, hd1⟩, .of_steps (.one stepR_seq) (.pass (x := .code y) (fun _ => rfl) (by simp) harr)⟩
  case cond x y z =>
    obtain ⟨v, hv, he⟩ := Option.bind_eq_some_iff.1 he
    have hr := val_rel ht hv
    split at he
    · have hx : a.eval x = .bool true := by generalize a.eval x = X at *; cases hr; rfl
      obtain ⟨e2, a1, w1, hR, harr⟩ := hrun _ _ _ _ _ _ _ he γ w a s ht b k cs (hro.imp (fun q => q) fun q => by simp only [noRange, Bool.and_eq_true] at q; exact q.1)
      exact ⟨e2, a1, w1, hR, .of_steps (.one (stepR_cond hx)) harr⟩
    · have hx : a.eval x = .bool false := by generalize a.eval x = X at *; cases hr; rfl
      obtain ⟨e2, a1, w1, hR, harr⟩ := hrun _ _ _ _ _ _ _ he γ w a s ht b k cs (hro.imp (fun q => q) fun q => by simp only [noRange, Bool.and_eq_true] at q; exact q.2)
      exact ⟨e2, a1, w1, hR, .of_steps (.one (stepR_cond hx)) harr⟩
    · cases he
  case block id x =>
    obtain ⟨⟨e1, tm1, h1⟩, hx, he⟩ := Option.map_eq_some_iff.1 he
    obtain ⟨e2, a1, w1, ⟨he2, γ1, hp1, ht1, hd1⟩, harr⟩ := hrun _ _ _ _ _ _ _ hx γ w a s ht b (.inBlock id :: k) cs (hro.imp (fun q => q) fun q => by simpa only [noRange] using q)
    subst he2
    cases e2 with
    | normal =>
      cases he
      exact ⟨.normal, a1, w1, ⟨rfl, γ1, hp1, ht1, hd1⟩, .head stepR_block (Steps.trans harr (.one stepR_inBlock))⟩
    | ret =>
      cases he
      obtain ⟨k0, hst⟩ := harr
      exact ⟨.ret, a1, w1, ⟨rfl, γ1, hp1, ht1, hd1⟩, k0, .head stepR_block hst⟩
    | exit i =>
      obtain ⟨k0, hk0, hst⟩ := harr
      simp only at he
      cases hb : Nat.beq i id with
      | true =>
        have hi := hb
        rw [beq_eq, decide_eq_true_iff] at hi
        subst hi
        rw [hb] at he
        cases he
        exact ⟨.normal, a1, w1, ⟨rfl, γ1, hp1, ht1, hd1⟩, .head stepR_block (hst.trans (.one (stepR_exit (k' := k) (by rw [hk0]; simp [exitTo]))))⟩
      | false =>
        have hi := hb
        rw [beq_eq, decide_eq_false_iff_not] at hi
        rw [hb] at he
        cases he
        refine ⟨.exit i, a1, w1, ⟨rfl, γ1, hp1, ht1, hd1⟩, k0, hk0.trans ?_, .head stepR_block hst⟩
        have : (id == i) = false := by simp; exact fun e => hi e.symm
        simp [exitTo, this]
  case loop x =>
    obtain ⟨⟨e1, tm1, h1⟩, hx, he⟩ := Option.bind_eq_some_iff.1 he
    obtain ⟨e2, a1, w1, ⟨he2, γ1, hp1, ht1, hd1⟩, harr⟩ := hrun _ _ _ _ _ _ _ hx γ w a s ht b (.inLoop x :: k) cs (hro.imp (fun q => q) fun q => by simpa only [noRange] using q)
    subst he2
    cases e2 with
    | normal =>
      obtain ⟨e3, a2, w2, ⟨he3, γ2, hp2, ht2, hd2⟩, harr2⟩ := hrun _ _ _ _ _ _ _ he γ1 w1 a1 hp1.sim ht1 b k cs hro
      exact ⟨e3, a2, w2, ⟨he3, γ2, hp1.trans hp2, ht2, hd1.trans hp1.size hp2 hd2⟩, .of_steps (.head stepR_loop harr) (loop_again harr2)⟩
    | exit i =>
      cases he
      exact ⟨.exit i, a1, w1, ⟨rfl, γ1, hp1, ht1, hd1⟩, .of_steps (.one stepR_loop) (.pass (x := .inLoop x) (fun _ => rfl) (by simp) harr)⟩
    | ret =>
      cases he
      exact ⟨.ret, a1, w1, ⟨rfl, γ1, hp1, ht1, hd1⟩, .of_steps (.one stepR_loop) (.pass (x := .inLoop x) (fun _ => rfl) (by simp) harr)⟩
  case rangeFunc g ps assign body =>
    have hround : b.round = none := by
      rcases hro with q | q
      · exact q
      · simp [noRange] at q
    split at he
    · cases he
    · obtain ⟨fv, hfv, he⟩ := Option.bind_eq_some_iff.1 he
      have hf := val_rel ht hfv
      split at he
      · rename_i g' first captured
        generalize hF : a.eval g = F at hf
        cases hf with
        | fn _ _ _ fa ca hfs hcs hfr hcr =>
          obtain ⟨⟨r0, h2⟩, hcl, he⟩ := Option.bind_eq_some_iff.1 he
          obtain ⟨w1, hw1⟩ : ∃ w1, w1 = w.alloc (.deferred (some [])) := ⟨_, rfl⟩
          obtain ⟨rec, hrec⟩ : ∃ rec : Loop, rec = { state := .ready, pending := none, fn := b.fn, tmps := a.tmps, params := ps, assign, body, defers := w.heap.size } := ⟨_, rfl⟩
          have p1 : Post γ h w γ h w1 := hw1 ▸ Post.garbage s _
          have hsz1 : w1.heap.size = w.heap.size + 1 := by rw [hw1]; simp
          have p2 : Post γ h w1 (γ.bind h.next 0 ⟨w1.heap.size, 0, 0, 0⟩) (h.new (.loop ⟨.ready, none, 0, tm, n, ps.toList, assign, body⟩)).2 (w1.alloc (.loop rec)) := by
            refine Post.new p1.sim _ _ 0 0 ?_
            intro g0 l0 hl0
            rcases G.bind_some hl0 with ⟨_, q1, q2⟩ | q
            · subst q1; subst q2
              exact ⟨rfl, rec, allocNew w1 _, by rw [hrec], by rw [hrec], by rw [hrec], by rw [hrec], by rw [hrec], by rw [hrec]; exact ht.mono (G.le_bind (p1.sim.mu_next 0))⟩
            · rw [p1.sim.mu_next] at q; cases q
          have hmu : (γ.bind h.next 0 ⟨w1.heap.size, 0, 0, 0⟩).mu h.next 0 = some ⟨w1.heap.size, 0, 0, 0⟩ := G.bind_same ..
          have hargs : RVs (γ.bind h.next 0 ⟨w1.heap.size, 0, 0, 0⟩) (first ++ [.yld h.next] ++ captured) (fa ++ #[Value.func (.yield w1.heap.size) #[] #[]] ++ ca).toList := by
            have hle := p2.le
            rw [Array.toList_append, Array.toList_append]
            refine RVs_append (RVs_append ⟨by simpa using hfs, fun i v x q1 q2 => (hfr i v x q1 (by simpa using q2)).mono hle⟩ ⟨rfl, fun i v x q1 q2 => ?_⟩) ⟨by simpa using hcs, fun i v x q1 q2 => (hcr i v x q1 (by simpa using q2)).mono hle⟩
            cases i with
            | zero => simp at q1 q2; subst q1; subst q2; exact .yld _ _ hmu
            | succ i => simp at q1
          have hres : (resolve a.eval (rangeCall' g (w.heap.size + 1)) 0).run P (w1.alloc (.loop rec)) = .ok { target := .fn (.func g') ca, args := fa ++ #[Value.func (.yield w1.heap.size) #[] #[]] } (w1.alloc (.loop rec)) := by
            simp only [resolve, rangeCall', hF, Deferred.ofValue, hsz1]
            simp [Act.eval]
          have henter : (Instr.enterLoop b.fn a.tmps ps assign body b.round).run P w = .ok (w.heap.size + 1, [markOf w.heap.size]) (w1.alloc (.loop rec)) := by
            rw [hround, run_enterLoop_outer, hw1, hrec]; rfl
          have goal : ∀ w3 γ3, Post (γ.bind h.next 0 ⟨w1.heap.size, 0, 0, 0⟩) (h.new (.loop ⟨.ready, none, 0, tm, n, ps.toList, assign, body⟩)).2 (w1.alloc (.loop rec)) γ3 h2 w3 →
              Steps P (lone (b.at a (.code (.rangeFunc g ps assign body) :: k)) cs w) (lone (b.at { a with defers := [markOf w.heap.size] ++ a.defers } (.endRangeFunc (w.heap.size + 1) :: k)) cs w3) →
              ∃ e2 a' w', CodeGood γ n h w a e tm' h' e2 a' w' ∧ LArr P (lone (b.at a (.code (.rangeFunc g ps assign body) :: k)) cs w) b k cs e2 a' w' := by
            intro w3 γ3 p3 hst
            unfold endLoopE at he
            split at he
            · rename_i r2 hr2
              have hm3 := p3.le.mu _ _ _ hmu
              obtain ⟨R2, hR2, f1, f2, _⟩ := loop_obj p3.sim hr2 hm3
              simp only [hsz1] at hR2
              have fin : r2.state ≠ .busy → Post γ h w γ3 (h2.set h.next (.loop { r2 with state := .exhausted })) (w3.putObj (w.heap.size + 1) (.loop { R2 with state := .exhausted })) ∧
                  Marks γ3 w (w3.putObj (w.heap.size + 1) (.loop { R2 with state := .exhausted })) a { a with defers := [markOf w.heap.size] ++ a.defers } ∧ RT γ3 n tm a.tmps ∧
                  Steps P (lone (b.at a (.code (.rangeFunc g ps assign body) :: k)) cs w) (lone (b.at { a with defers := [markOf w.heap.size] ++ a.defers } ((r2.pending.map Item.code).toList ++ k)) cs (w3.putObj (w.heap.size + 1) (.loop { R2 with state := .exhausted }))) := by
                intro hb
                have p4 : Post γ3 h2 w3 γ3 (h2.set h.next (.loop { r2 with state := .exhausted })) (w3.putObj (w.heap.size + 1) (.loop { R2 with state := .exhausted })) := by
                  have := post_setLoop p3.sim hr2 hm3 (R := R2) (by simpa only [hsz1] using hR2) .exhausted R2.pending
                  simp only [hsz1] at this
                  exact (f2 ▸ this : Post γ3 h2 w3 γ3 (h2.set h.next (.loop { r2 with state := .exhausted, pending := r2.pending })) (w3.putObj (w.heap.size + 1) (.loop { R2 with state := .exhausted, pending := R2.pending })))
                have p14 := (p2.trans p3).trans p4
                refine ⟨p1.trans p14, ⟨[w.heap.size], rfl, by simp, fun D hD => ?_⟩, ht.mono p14.le, ?_⟩
                · simp at hD
                  subst hD
                  have hun : ∀ b g l, γ.mu b g = some l → l.r ≠ w.heap.size := fun b g l hl => by have := s.lt b g l hl; omega
                  refine ⟨Nat.le_refl _, (p14.keep _ (by omega) hun).trans (by rw [hw1]; exact allocNew w _), fun b g l hl => ?_⟩
                  rcases p14.fresh b g l hl with ⟨g0, l0, q1, q2⟩ | q
                  · exact q2 ▸ hun b g0 l0 q1
                  · omega
                · have := step_endRange (b := b) (a := { a with defers := [markOf w.heap.size] ++ a.defers }) (k := k) (cs := cs) (run_endLoop (P := P) hR2 (fun q => hb (f1 ▸ q)))
                  have hj : (R2.pending.map Item.code).toList ++ k = (r2.pending.map Item.code).toList ++ k := by rw [f2]
                  rw [hj] at this
                  exact hst.trans (.one this)
              have hnb : r2.state ≠ .busy := by
                intro q
                rw [q] at he
                cases he
              obtain ⟨q1, q2, q3, q4⟩ := fin hnb
              have he' : (match r2.pending with
                  | none => some (LExit.normal, tm, h2.set h.next (.loop { r2 with state := .exhausted }))
                  | some (.exit id) => some (.exit id, tm, h2.set h.next (.loop { r2 with state := .exhausted }))
                  | some .ret => some (.ret, tm, h2.set h.next (.loop { r2 with state := .exhausted }))
                  | _ => none) = some (e, tm', h') := by
                cases hs : r2.state <;> rw [hs] at he hnb <;> first | exact he | exact absurd rfl hnb
              split at he'
              · rename_i hp
                cases he'
                rw [hp] at q4
                exact ⟨.normal, { a with defers := [markOf w.heap.size] ++ a.defers }, _, ⟨rfl, γ3, q1, q3, q2⟩, q4⟩
              · rename_i id hp
                cases he'
                rw [hp] at q4
                exact ⟨.exit id, { a with defers := [markOf w.heap.size] ++ a.defers }, _, ⟨rfl, γ3, q1, q3, q2⟩, k, rfl, q4⟩
              · rename_i hp
                cases he'
                rw [hp] at q4
                exact ⟨.ret, { a with defers := [markOf w.heap.size] ++ a.defers }, _, ⟨rfl, γ3, q1, q3, q2⟩, k, q4⟩
              · cases he'
            · cases he
          rcases hcall g' _ _ _ _ hcl _ _ _ p2.sim hargs with ⟨X, w3, hrv, γ3, p3, _⟩ | ⟨hre, hret⟩
          · refine goal w3 γ3 p3 (.one (step_rangeV (v := X) henter hres ?_))
            simp only [invoke]
            exact hrv
          · obtain ⟨v, w3, fr, ⟨γ3, p3, _⟩, hst, _, hl⟩ := hret (b.at { a with defers := [markOf w.heap.size] ++ a.defers } (.inRangeFunc (w.heap.size + 1) :: k) :: cs)
            refine goal w3 γ3 p3 (.head (step_rangeR henter hres ?_) (hst.trans (.one ?_)))
            · simp only [invoke]
              exact hre
            · rw [step_leave_returned hl, finish_inRange]
      · cases he
  case exit id =>
    cases he
    exact ⟨.exit id, a, w, ⟨rfl, γ, .refl s, ht, .none rfl⟩, k, rfl, .refl ..⟩
  case scope x =>
    obtain ⟨e2, a1, w1, ⟨he2, γ1, hp1, ht1, hd1⟩, harr⟩ := hrun _ _ _ _ _ _ _ he γ w a s ht b (.inScope x :: k) cs (hro.imp (fun q => q) fun q => by simpa only [noRange] using q)
    subst he2
    cases e2 with
    | normal => exact ⟨.normal, a1, w1, ⟨rfl, γ1, hp1, ht1, hd1⟩, .head stepR_scope (Steps.trans harr (.one stepR_inScope))⟩
    | ret =>
      obtain ⟨k0, hst⟩ := harr
      exact ⟨.ret, a1, w1, ⟨rfl, γ1, hp1, ht1, hd1⟩, k0, .head stepR_scope hst⟩
    | exit i =>
      obtain ⟨k0, hk0, hst⟩ := harr
      exact ⟨.exit i, a1, w1, ⟨rfl, γ1, hp1, ht1, hd1⟩, k0, hk0, .head stepR_scope hst⟩
  case ret =>
    cases he
    exact ⟨.ret, a, w, ⟨rfl, γ, .refl s, ht, .none rfl⟩, k, .refl ..⟩
  case goto => cases he
  case refuse => cases he
end
end Go.Ev

namespace Go.Ev
set_option linter.unusedSimpArgs false
set_option linter.unusedVariables false

theorem memB_eq (i : Nat) : ∀ l, memB i l = decide (i ∈ l)
  | [] => by simp [memB]
  | j :: l => by
    unfold memB
    cases h : Nat.beq i j with
    | true => rw [beq_eq, decide_eq_true_iff] at h; simp [h]
    | false => rw [beq_eq, decide_eq_false_iff_not] at h; simp [h, memB_eq i l]

theorem bnd {α β : Type} {x : Option α} {f : α → Option β} {y : β} (h : x.bind f = some y) : ∃ z, x = some z ∧ f z = some y := Option.bind_eq_some_iff.1 h
theorem mp {α β : Type} {x : Option α} {f : α → β} {y : β} (h : x.map f = some y) : ∃ z, x = some z ∧ f z = y := Option.map_eq_some_iff.1 h

/-! ### what an operation hangs on -/
theorem val_congr {tm tm' : Tmps} {x : Operand} (h : ∀ t, x = .tmp t → tm.get t = tm'.get t) : val tm x = val tm' x := by
  cases x with
  | tmp t => simp [val, h t rfl]
  | _ => rfl
theorem vals_congr {tm tm' : Tmps} {xs : Array Operand} (h : ∀ x ∈ xs, ∀ t, x = .tmp t → tm.get t = tm'.get t) : vals tm xs = vals tm' xs := by
  unfold vals
  have key : ∀ l : List Operand, (∀ x ∈ l, ∀ t, x = .tmp t → tm.get t = tm'.get t) → l.mapM (val tm) = l.mapM (val tm') := by
    intro l hl
    induction l with
    | nil => rfl
    | cons x l ih =>
      simp only [List.mapM_cons]
      rw [val_congr (hl x (by simp)), ih fun y hy => hl y (by simp [hy])]
  exact key _ fun x hx => h x (by simpa using hx)
theorem parts_congr {tm tm' : Tmps} {xs : Array (Nat × Operand)} (h : ∀ x ∈ xs.map (·.2), ∀ t, x = .tmp t → tm.get t = tm'.get t) : parts tm xs = parts tm' xs := by
  unfold parts
  have key : ∀ l : List (Nat × Operand), (∀ x ∈ l.map (·.2), ∀ t, x = .tmp t → tm.get t = tm'.get t) → l.mapM (fun p => (val tm p.2).map fun v => (p.1, v)) = l.mapM (fun p => (val tm' p.2).map fun v => (p.1, v)) := by
    intro l hl
    induction l with
    | nil => rfl
    | cons x l ih =>
      simp only [List.mapM_cons]
      rw [val_congr (hl x.2 (by simp)), ih fun y hy => hl y (by simp at hy ⊢; exact .inr hy)]
  exact key _ fun x hx => h x (by simpa using hx)
theorem oval_congr {tm tm' : Tmps} {x : Option Operand} (h : ∀ y, x = some y → ∀ t, y = .tmp t → tm.get t = tm'.get t) : oval tm x = oval tm' x := by
  cases x with
  | none => rfl
  | some y => simp [oval, val_congr (h y rfl)]

theorem evA_congr {P : Program} {tm tm' : Tmps} {op : Op} (h : ∀ x ∈ op.operands, ∀ t, x = .tmp t → tm.get t = tm'.get t) : evA P tm op = evA P tm' op := by
  cases op <;> simp only [Op.operands] at h <;> simp only [evA]
  case box t x => rw [val_congr (h x (by simp))]
  case buildSlice t n ps => rw [parts_congr fun x hx => h x (by simpa using hx)]
  case makeMap t r =>
    cases r with
    | none => rfl
    | some r =>
      have h1 := val_congr (h r (by simp))
      cases P.underlying t with
      | none => rfl
      | some d => cases d <;> first | rfl | (simp only [h1])
  case makeSlice t l c => rw [val_congr (h l (by simp)), val_congr (h c (by simp))]
theorem evOp_congr {P : Program} {call : CallF} {yld : Nat → List LV → Heap → Option (LV × Heap)} {tm tm' : Tmps} {o : Oper} {hp : Heap} (h : ∀ x ∈ o.op.operands, ∀ t, x = .tmp t → tm.get t = tm'.get t) : evOp P call yld tm o hp = evOp P call yld tm' o hp := by
  have hA := evA_congr (P := P) h
  unfold evOp
  rw [hA]
  generalize o.op = op at *
  cases op <;> simp only [Op.operands] at h <;> try simp only
  case move x => rw [val_congr (h x (by simp))]
  case assign x => rw [val_congr (h x (by simp))]
  case pick c a b => rw [val_congr (h c (by simp)), val_congr (h a (by simp)), val_congr (h b (by simp))]
  case build t ps => rw [parts_congr fun x hx => h x (by simpa using hx)]
  case load t a => rw [val_congr (h a (by simp))]
  case store t a x => rw [val_congr (h a (by simp)), val_congr (h x (by simp))]
  case nilCheck x => rw [val_congr (h x (by simp))]
  case binOp op t x y _ => rw [val_congr (h x (by simp)), val_congr (h y (by simp))]
  case unOp op t x => rw [val_congr (h x (by simp))]
  case convert s d x => rw [val_congr (h x (by simp))]
  case makeInterface t x => rw [val_congr (h x (by simp))]
  case makeFunc f first captured =>
    cases f with
    | func f =>
      have h1 := vals_congr (xs := first) fun x hx => h x (by simp [hx])
      have h2 := vals_congr (xs := captured) fun x hx => h x (by simp [hx])
      simp only [h1, h2]
    | _ => rfl
  case slice t x lo hi mx =>
    rw [val_congr (h x (by simp)), oval_congr (x := lo) fun y hy => h y (by simp [hy]), oval_congr (x := hi) fun y hy => h y (by simp [hy]), oval_congr (x := mx) fun y hy => h y (by simp [hy])]
  case fieldAddr t x i => rw [val_congr (h x (by simp))]
  case field t x i => rw [val_congr (h x (by simp))]
  case indexAddr t x i => rw [val_congr (h x (by simp)), val_congr (h i (by simp))]
  case index t x i => rw [val_congr (h x (by simp)), val_congr (h i (by simp))]
  case lookup t x k ok => rw [val_congr (h x (by simp)), val_congr (h k (by simp))]
  case mapUpdate t m k v => rw [val_congr (h m (by simp)), val_congr (h k (by simp)), val_congr (h v (by simp))]
  case insert t m k v => rw [val_congr (h m (by simp)), val_congr (h k (by simp)), val_congr (h v (by simp))]
  case mapEntry t m k => rw [val_congr (h m (by simp)), val_congr (h k (by simp))]
  case entryStore t m s v => rw [val_congr (h m (by simp)), val_congr (h s (by simp)), val_congr (h v (by simp))]
  case extract t i => rw [val_congr (h t (by simp))]
  case call c =>
    rw [vals_congr fun x hx => h x (by simp [Call.operands, hx])]
    cases hc : c.callee with
    | builtin b => rfl
    | invoke r m => rfl
    | value f => have h1 := val_congr (h f (by simp [Call.operands, hc])); simp only [h1]

theorem wantedE_congr {ops : Array Oper} {tm tm' : Tmps} {o : Oper} (h : ∀ t ∈ namesOf ops o, tm.get t = tm'.get t) : wantedE ops tm o = wantedE ops tm' o := by
  unfold wantedE
  cases hg : o.guard with
  | none => rfl
  | some g =>
    obtain ⟨j, want⟩ := g
    simp only
    cases hd : (ops[j]?).bind (·.dst) with
    | none => rfl
    | some d =>
      simp only
      rw [h d (by simp [namesOf, hg, hd])]
theorem names_operand {ops : Array Oper} {o : Oper} {x : Operand} (hx : x ∈ o.op.operands) {t : Tmp} (e : x = .tmp t) : t ∈ namesOf ops o := by
  subst e
  exact List.mem_append_left _ (List.mem_filterMap.2 ⟨.tmp t, by simpa using hx, rfl⟩)

/-- What reads leaves memory as it is. -/
theorem evOp_reads {P : Program} {call : CallF} {yld : Nat → List LV → Heap → Option (LV × Heap)} {tm : Tmps} {o : Oper} {h h' : Heap} {v : LV} (hk : kindOf P o.op = .reads) (he : evOp P call yld tm o h = some (v, h')) : h' = h := by
  unfold evOp at he
  generalize o.op = op at *
  cases op <;> simp only [kindOf] at hk <;> first | (cases hk; done) | simp only at he
  case move x => obtain ⟨_, _, e⟩ := mp he; cases e; rfl
  case assign x => obtain ⟨_, _, e⟩ := mp he; cases e; rfl
  case pick c a b =>
    obtain ⟨u, _, he⟩ := bnd he
    split at he
    · obtain ⟨_, _, e⟩ := mp he; cases e; rfl
    · obtain ⟨_, _, e⟩ := mp he; cases e; rfl
    · cases he
  case build t ps => obtain ⟨_, _, he⟩ := bnd he; obtain ⟨_, _, e⟩ := mp he; cases e; rfl
  case load t a => obtain ⟨_, _, he⟩ := bnd he; obtain ⟨_, _, e⟩ := mp he; cases e; rfl
  case nilCheck x =>
    obtain ⟨_, _, he⟩ := bnd he
    split at he <;> cases he <;> rfl
  case binOp op t x y _ => obtain ⟨_, _, he⟩ := bnd he; obtain ⟨_, _, he⟩ := bnd he; obtain ⟨_, _, e⟩ := mp he; cases e; rfl
  case unOp op t x => obtain ⟨_, _, he⟩ := bnd he; obtain ⟨_, _, e⟩ := mp he; cases e; rfl
  case convert s d x =>
    obtain ⟨u, _, he⟩ := bnd he
    unfold convertE at he
    split at he
    · cases he; rfl
    · cases he; rfl
    · rename_i hd _; rw [hd] at hk; cases hk
    · split at he
      · obtain ⟨_, _, he⟩ := bnd he
        obtain ⟨_, _, he⟩ := bnd he
        split at he
        · obtain ⟨_, _, e⟩ := mp he; cases e; rfl
        · cases he
      · cases he
    · cases he
  case makeInterface t x =>
    obtain ⟨_, _, he⟩ := bnd he
    split at he <;> cases he <;> rfl
  case makeFunc f first captured =>
    cases f with
    | func f => obtain ⟨_, _, he⟩ := bnd he; obtain ⟨_, _, e⟩ := mp he; cases e; rfl
    | _ => cases he
  case slice t x lo hi mx =>
    obtain ⟨_, _, he⟩ := bnd he; obtain ⟨_, _, he⟩ := bnd he; obtain ⟨_, _, he⟩ := bnd he; obtain ⟨_, _, he⟩ := bnd he; obtain ⟨_, _, e⟩ := mp he; cases e; rfl
  case fieldAddr t x i => obtain ⟨_, _, he⟩ := bnd he; obtain ⟨_, _, e⟩ := mp he; cases e; rfl
  case field t x i =>
    obtain ⟨_, _, he⟩ := bnd he
    split at he
    · obtain ⟨_, _, he⟩ := bnd he; obtain ⟨_, _, e⟩ := mp he; cases e; rfl
    · cases he
  case indexAddr t x i => obtain ⟨_, _, he⟩ := bnd he; obtain ⟨_, _, he⟩ := bnd he; obtain ⟨_, _, e⟩ := mp he; cases e; rfl
  case index t x i => obtain ⟨_, _, he⟩ := bnd he; obtain ⟨_, _, he⟩ := bnd he; obtain ⟨_, _, e⟩ := mp he; cases e; rfl
  case lookup t x k ok => obtain ⟨_, _, he⟩ := bnd he; obtain ⟨_, _, he⟩ := bnd he; obtain ⟨_, _, e⟩ := mp he; cases e; rfl
  case extract t i =>
    obtain ⟨_, _, he⟩ := bnd he
    split at he
    · obtain ⟨_, _, e⟩ := mp he; cases e; rfl
    · cases he
  case call c =>
    obtain ⟨_, _, he⟩ := bnd he
    cases hc : c.callee with
    | value f => simp [hc] at hk
    | invoke r m => simp [hc] at hk
    | builtin b =>
      simp only [hc] at he hk
      unfold builtinE at he
      split at he <;> try (simp at hk; done)
      · obtain ⟨_, _, e⟩ := mp he; cases e; rfl
      · obtain ⟨_, _, e⟩ := mp he; cases e; rfl
      · obtain ⟨_, _, e⟩ := mp he; cases e; rfl
      · obtain ⟨_, _, e⟩ := mp he; cases e; rfl
      · cases he
theorem evOp_still {P : Program} {call : CallF} {yld : Nat → List LV → Heap → Option (LV × Heap)} {tm : Tmps} {o : Oper} {h h1 h2 : Heap} {v : LV} (hk : stillB o.op = true) (he : evOp P call yld tm o h = some (v, h1)) : evOp P call yld tm o h2 = some (v, h2) := by
  unfold evOp at he ⊢
  generalize o.op = op at *
  have one : ∀ {x : Option LV}, x.map (·, h) = some (v, h1) → x.map (·, h2) = some (v, h2) := fun hm => by
    obtain ⟨u, hu, e⟩ := mp hm
    cases e
    rw [hu]; rfl
  have down : ∀ {α : Type} {x : Option α} {f g : α → Option (LV × Heap)}, (∀ z, f z = some (v, h1) → g z = some (v, h2)) → x.bind f = some (v, h1) → x.bind g = some (v, h2) := fun hz hb => by
    obtain ⟨z, hz1, hz2⟩ := bnd hb
    rw [hz1]; exact hz z hz2
  cases op <;> simp only [stillB] at hk <;> first | (cases hk; done) | skip
  case move x => exact one he
  case assign x => exact one he
  case pick c a b =>
    refine down (fun z hz => ?_) he
    split at hz
    · exact one hz
    · exact one hz
    · cases hz
  case build t ps => exact down (fun z hz => one hz) he
  case nilCheck x =>
    refine down (fun z hz => ?_) he
    split at hz <;> first | (cases hz; rfl) | (cases hz; done)
  case binOp op t x y _ => exact down (fun z hz => down (fun z hz => one hz) hz) he
  case unOp op t x => exact down (fun z hz => one hz) he
  case makeInterface t x =>
    refine down (fun z hz => ?_) he
    split at hz <;> first | (cases hz; done) | (cases hz; rfl)
  case makeFunc f first captured =>
    cases f with
    | func f => exact down (fun z hz => by obtain ⟨u, hu, e⟩ := mp hz; cases e; rw [hu]; rfl) he
    | _ => cases he
  case fieldAddr t x i => exact down (fun z hz => one hz) he
  case field t x i =>
    refine down (fun z hz => ?_) he
    split at hz
    · exact down (fun z hz => one hz) hz
    · cases hz
  case indexAddr t x i => exact down (fun z hz => down (fun z hz => one hz) hz) he
  case index t x i => exact down (fun z hz => down (fun z hz => one hz) hz) he
  case extract t i =>
    refine down (fun z hz => ?_) he
    split at hz
    · exact one hz
    · cases hz
theorem evOp_makes {P : Program} {call : CallF} {yld : Nat → List LV → Heap → Option (LV × Heap)} {tm : Tmps} {o : Oper} {h h' : Heap} {v : LV} (hk : kindOf P o.op = .makes) (he : evOp P call yld tm o h = some (v, h')) :
    ∃ nw, evA P tm o.op = some nw ∧ v = nw.2 h.next ∧ h' = (h.new nw.1).2 := by
  unfold evOp at he
  have fin : ∀ {op : Op}, (evA P tm op).map (putNew h) = some (v, h') → ∃ nw, evA P tm op = some nw ∧ v = nw.2 h.next ∧ h' = (h.new nw.1).2 := by
    intro op hm
    obtain ⟨nw, h1, e⟩ := mp hm
    obtain ⟨ob, mk⟩ := nw
    simp only [putNew, Prod.mk.injEq] at e
    exact ⟨_, h1, e.1.symm, e.2.symm⟩
  generalize o.op = op at *
  cases op <;> simp only [kindOf] at hk <;> first | (cases hk; done) | (exact fin he) | skip
  case convert s d x => split at hk <;> cases hk
  case call c => split at hk <;> cases hk

theorem lbeq : ∀ (x y : List Nat), listBeq x y = true → x = y
  | [], [], _ => rfl
  | [], _ :: _, h => by cases h
  | _ :: _, [], h => by cases h
  | a :: x, b :: y, h => by
    unfold listBeq at h
    split at h
    · rename_i e
      rw [beq_eq, decide_eq_true_iff] at e
      rw [e, lbeq x y h]
    · cases h
theorem lvEq_eq : ∀ (d : Nat) (x y : LV), lvEq d x y = true → x = y
  | 0, x, y, h => by cases h
  | d + 1, x, y, h => by
    have lists : ∀ (xs ys : List LV), Nat.beq xs.length ys.length = true → ((xs.zip ys).all fun p => lvEq d p.1 p.2) = true → xs = ys := by
      intro xs
      induction xs with
      | nil =>
        intro ys hl _
        rw [beq_eq, decide_eq_true_iff] at hl
        cases ys with
        | nil => rfl
        | cons _ _ => simp at hl
      | cons a xs ih =>
        intro ys hl ha
        rw [beq_eq, decide_eq_true_iff] at hl
        cases ys with
        | nil => simp at hl
        | cons b ys =>
          simp only [List.zip_cons_cons, List.all_cons, Bool.and_eq_true] at ha
          rw [lvEq_eq d a b ha.1, ih ys (by rw [beq_eq, decide_eq_true_iff]; simpa using hl) ha.2]
    unfold lvEq at h
    split at h
    · simp at h; rw [h]
    · rw [Bool.and_eq_true, decide_eq_true_iff, ieq_eq] at h; rw [h.1, eq_of_beq h.2]
    · rw [lbeq _ _ h]
    · rfl
    · rfl
    · rfl
    · rfl
    · rfl
    · simp only [Bool.and_eq_true, beq_eq, decide_eq_true_iff] at h; rw [h.1.1, h.1.2, h.2]
    · simp only [Bool.and_eq_true, beq_eq, decide_eq_true_iff] at h; rw [h]
    · rename_i b g o n c e b' g' o' n' c' e'
      simp only [Bool.and_eq_true, beq_eq, decide_eq_true_iff] at h
      obtain ⟨⟨⟨⟨⟨h1, h2⟩, h3⟩, h4⟩, h5⟩, h6⟩ := h
      have : c = c' := by
        cases c <;> cases c' <;> simp at h6 <;> first | rfl | (rw [h6])
      rw [h1, h2, h3, h4, h5, this]
    · rw [Bool.and_eq_true, Bool.and_eq_true] at h
      rw [lists _ _ h.1.2 h.2]
      have := h.1.1
      rw [beq_eq, decide_eq_true_iff] at this
      rw [this]
    · rw [Bool.and_eq_true] at h; rw [lists _ _ h.1 h.2]
    · rw [Bool.and_eq_true] at h; rw [lists _ _ h.1 h.2]
    · rw [Bool.and_eq_true] at h; rw [lists _ _ h.1 h.2]
    · simp only [Bool.and_eq_true] at h
      obtain ⟨⟨⟨⟨h1, h2⟩, h3⟩, h4⟩, h5⟩ := h
      rw [lists _ _ h2 h4, lists _ _ h3 h5]
      rw [beq_eq, decide_eq_true_iff] at h1
      rw [h1]
    · cases h
end Go.Ev

namespace Go.Ev
set_option linter.unusedSimpArgs false
set_option linter.unusedVariables false

theorem kind_isW {k : Kind} : k.isW = true ↔ k = .writes := by cases k <;> simp [Kind.isW]

/-! ### what is asked of a region -/
structure DrawFacts (ops : Array Oper) (ks : List Kind) (ms ord : List Nat) : Prop where
  edge : ∀ i, i < ops.size → ∃ o, ops[i]? = some o ∧ (∀ e ∈ o.after.toList, Region.binds .any e = true → e.on < i ∧ bit (ms.getD i 0) e.on = true) ∧
    ∀ j, j < ops.size → bit (ms.getD i 0) j = true → ∃ e ∈ o.after.toList, Region.binds .any e = true ∧ e.on < i ∧ (e.on = j ∨ bit (ms.getD e.on 0) j = true)
  all : ∀ i, i < ops.size → i ∈ ord
  ord : ∀ (l1 : List Nat) i l2, ord = l1 ++ i :: l2 → i < ops.size ∧ i ∉ l1 ∧ (∀ j, j < ops.size → bit (ms.getD i 0) j = true → j ∈ l1) ∧ (∀ j ∈ l1, ks.getD j .reads = .writes → bit (ms.getD i 0) j = true)
  apart : ∀ i j, i < ops.size → j < ops.size → i ≠ j → ∀ d o, (ops[i]?).bind (·.dst) = some d → ops[j]? = some o → o.dst ≠ some d ∧ (bit (ms.getD i 0) j = true ∨ bit (ms.getD j 0) i = true ∨ d ∉ namesOf ops o)

theorem ordGo_facts {n : Nat} {ks : List Kind} {ms : List Nat} : ∀ (ord done : List Nat), ordGo n ks ms ord done = true → ∀ (l1 : List Nat) i l2, ord = l1 ++ i :: l2 →
    i < n ∧ (i ∉ l1 ∧ i ∉ done) ∧ (∀ j, j < n → bit (ms.getD i 0) j = true → j ∈ l1 ∨ j ∈ done) ∧ (∀ j, j ∈ l1 ∨ j ∈ done → ks.getD j .reads = .writes → bit (ms.getD i 0) j = true)
  | [], done, _, l1, i, l2, e => by simp at e
  | x :: rest, done, h, l1, i, l2, e => by
    unfold ordGo at h
    simp only [Bool.and_eq_true] at h
    obtain ⟨⟨⟨⟨h1, h2⟩, h3⟩, h4⟩, h5⟩ := h
    cases l1 with
    | nil =>
      simp only [List.nil_append, List.cons.injEq] at e
      obtain ⟨rfl, rfl⟩ := e
      rw [blt_eq, decide_eq_true_iff] at h1
      refine ⟨h1, ⟨by simp, ?_⟩, fun j hj hb => .inr ?_, fun j hj hw => ?_⟩
      · simpa [memB_eq] using h2
      · have := List.all_eq_true.1 h3 j (by simpa using hj)
        rw [hb] at this
        simpa [memB_eq] using this
      · have hj' : j ∈ done := hj.resolve_left (by simp)
        have := List.all_eq_true.1 h4 j hj'
        rw [hw] at this
        exact this
    | cons y l1 =>
      simp only [List.cons_append, List.cons.injEq] at e
      obtain ⟨rfl, e⟩ := e
      obtain ⟨g1, ⟨g2, g3⟩, g4, g5⟩ := ordGo_facts rest (x :: done) h5 l1 i l2 e
      simp only [List.mem_cons, not_or] at g3 g4 g5 ⊢
      refine ⟨g1, ⟨⟨g3.1, g2⟩, g3.2⟩, fun j hj hb => ?_, fun j hj hw => ?_⟩
      · rcases g4 j hj hb with k | k | k
        · exact .inl (.inr k)
        · exact .inl (.inl k)
        · exact .inr k
      · refine g5 j ?_ hw
        rcases hj with (k | k) | k
        · exact .inr (.inl k)
        · exact .inl k
        · exact .inr (.inr k)

theorem drawOk_facts {ops : Array Oper} {ks : List Kind} {ms ord : List Nat} (h : drawOk ops ks ms ord = true) : DrawFacts ops ks ms ord := by
  unfold drawOk at h
  simp only [Bool.and_eq_true] at h
  obtain ⟨⟨⟨h1, h2⟩, h3⟩, h4⟩ := h
  refine ⟨fun i hi => ?_, fun i hi => ?_, fun l1 i l2 e => ?_, fun i j hi hj hne d o hd ho => ?_⟩
  · have := List.all_eq_true.1 h1 i (by simpa using hi)
    unfold maskOk at this
    split at this
    · cases this
    · rename_i o ho
      rw [Bool.and_eq_true] at this
      obtain ⟨m1, m2⟩ := this
      refine ⟨o, ho, fun e he hb => ?_, fun j hj hb => ?_⟩
      · have := List.all_eq_true.1 m1 e he
        rw [hb] at this
        simpa [blt_eq] using this
      · have := List.all_eq_true.1 m2 j (by simpa using hj)
        rw [hb] at this
        obtain ⟨e, he, h5⟩ := List.any_eq_true.1 this
        simp only [Bool.and_eq_true, Bool.or_eq_true, blt_eq, beq_eq, decide_eq_true_iff] at h5
        exact ⟨e, he, h5.1.1, h5.1.2, h5.2⟩
  · have := List.all_eq_true.1 h2 i (by simpa using hi)
    simpa [memB_eq] using this
  · obtain ⟨g1, ⟨g2, g3⟩, g4, g5⟩ := ordGo_facts ord [] h3 l1 i l2 e
    exact ⟨g1, g2, fun j hj hb => (g4 j hj hb).resolve_right (by simp), fun j hj hw => g5 j (.inl hj) hw⟩
  · have := List.all_eq_true.1 (List.all_eq_true.1 h4 i (by simpa using hi)) j (by simpa using hj)
    unfold apartOk at this
    rw [Bool.or_eq_true, beq_eq, decide_eq_true_iff] at this
    have := this.resolve_left hne
    rw [hd, ho] at this
    simp only [Bool.and_eq_true, Bool.or_eq_true, memB_eq, beq_eq] at this
    obtain ⟨t1, t2⟩ := this
    refine ⟨fun e => ?_, ?_⟩
    · rw [e] at t1; simp at t1
    · rcases t2 with (k | k) | k
      · exact .inl k
      · exact .inr (.inl k)
      · exact .inr (.inr (by simpa using k))

/-! ### what was run -/
section
variable {P : Program} {call : CallF} {yld : Nat → List LV → Heap → Option (LV × Heap)} {n : Nat} {ops : Array Oper} {ks : List Kind} {ms : List Nat}

def RecsOk (P : Program) (call : CallF) (yld : Nat → List LV → Heap → Option (LV × Heap)) (n : Nat) (ops : Array Oper) : List Rec → Tmps → Heap → Tmps → Heap → Prop
  | [], tm, h, tm', h' => tm = tm' ∧ h = h'
  | r :: rs, tm, h, tm', h' => r.tm = tm ∧ r.h = h ∧ ∃ o h1 tm1, ops[r.i]? = some o ∧ r.want = wantedE ops tm o ∧ (r.want = true → evOp P call yld tm o h = some (r.v, h1)) ∧ (r.want = false → r.v = LV.undef ∧ h1 = h) ∧
    putE n tm o.dst r.v = some tm1 ∧ RecsOk P call yld n ops rs tm1 h1 tm' h'

theorem drawRun_recs : ∀ (ord : List Nat) (tm : Tmps) (h : Heap) (rs : List Rec) (tm' : Tmps) (h' : Heap), drawRun P call yld n ops ord tm h = some (rs, tm', h') → RecsOk P call yld n ops rs tm h tm' h' ∧ rs.map (·.i) = ord
  | [], tm, h, rs, tm', h', e => by
    simp only [drawRun, Option.some.injEq, Prod.mk.injEq] at e
    obtain ⟨rfl, rfl, rfl⟩ := e
    exact ⟨⟨rfl, rfl⟩, rfl⟩
  | i :: is, tm, h, rs, tm', h', e => by
    unfold drawRun at e
    split at e
    · cases e
    · rename_i o ho
      split at e
      · rename_i hw
        obtain ⟨⟨v, h1⟩, hv, e⟩ := bnd e
        obtain ⟨tm1, hp, e⟩ := bnd e
        obtain ⟨⟨rs1, t1, hh1⟩, hr, e⟩ := mp e
        simp only [Prod.mk.injEq] at e
        obtain ⟨rfl, rfl, rfl⟩ := e
        obtain ⟨g1, g2⟩ := drawRun_recs is tm1 h1 rs1 t1 hh1 hr
        exact ⟨⟨rfl, rfl, o, h1, tm1, ho, hw.symm, fun _ => hv, (by intro k; cases k), hp, g1⟩, by simp [g2]⟩
      · rename_i hw
        obtain ⟨tm1, hp, e⟩ := bnd e
        obtain ⟨⟨rs1, t1, hh1⟩, hr, e⟩ := mp e
        simp only [Prod.mk.injEq] at e
        obtain ⟨rfl, rfl, rfl⟩ := e
        obtain ⟨g1, g2⟩ := drawRun_recs is tm1 h rs1 t1 hh1 hr
        exact ⟨⟨rfl, rfl, o, h, tm1, ho, hw.symm, (by intro k; cases k), fun _ => ⟨rfl, rfl⟩, hp, g1⟩, by simp [g2]⟩

theorem RecsOk.split : ∀ (l1 l2 : List Rec) (tm tm' : Tmps) (h h' : Heap), RecsOk P call yld n ops (l1 ++ l2) tm h tm' h' → ∃ tm1 h1, RecsOk P call yld n ops l1 tm h tm1 h1 ∧ RecsOk P call yld n ops l2 tm1 h1 tm' h'
  | [], l2, tm, tm', h, h', hr => ⟨tm, h, And.intro rfl rfl, hr⟩
  | r :: l1, l2, tm, tm', h, h', hr => by
    obtain ⟨a1, a2, o, h1, tm1, a3, a4, a5, a6, a7, a8⟩ := hr
    obtain ⟨tm2, h2, b1, b2⟩ := RecsOk.split l1 l2 tm1 tm' h1 h' a8
    exact ⟨tm2, h2, ⟨a1, a2, o, h1, tm1, a3, a4, a5, a6, a7, b1⟩, b2⟩
theorem RecsOk.join : ∀ (l1 l2 : List Rec) (tm tm' tm1 : Tmps) (h h' h1 : Heap), RecsOk P call yld n ops l1 tm h tm1 h1 → RecsOk P call yld n ops l2 tm1 h1 tm' h' → RecsOk P call yld n ops (l1 ++ l2) tm h tm' h'
  | [], l2, tm, tm', tm1, h, h', h1, he, hr => by
    obtain ⟨rfl, rfl⟩ := he
    exact hr
  | r :: l1, l2, tm, tm', tm2, h, h', h2, ⟨a1, a2, o, h1, tm1, a3, a4, a5, a6, a7, a8⟩, hr => ⟨a1, a2, o, h1, tm1, a3, a4, a5, a6, a7, RecsOk.join l1 l2 _ _ _ _ _ _ a8 hr⟩

/-! ### temporaries -/
def dstOf (ops : Array Oper) (i : Nat) : Option Tmp := (ops[i]?).bind (·.dst)
structure TmAt (ops : Array Oper) (rs : List Rec) (S : Nat → Prop) (tm0 tm : Tmps) : Prop where
  on : ∀ r ∈ rs, S r.i → ∀ t, dstOf ops r.i = some t → tm.get t = r.v
  off : ∀ t, (∀ r ∈ rs, S r.i → dstOf ops r.i ≠ some t) → tm.get t = tm0.get t

theorem putE_get {tm tm' : Tmps} {dst : Option Tmp} {v : LV} (h : putE n tm dst v = some tm') (t : Nat) : tm'.get t = if dst = some t then v else tm.get t := by
  unfold putE at h
  cases dst with
  | none => cases h; simp
  | some d =>
    simp only at h
    split at h
    · cases h
      simp only [Tmps.get, Option.some.injEq]
      by_cases e : d = t
      · subst e; rw [T.get_set_same, if_pos rfl]; rfl
      · rw [T.get_set_ne _ _ e, if_neg e]
    · cases h
theorem putE_any {tm tm' tm1 : Tmps} {dst : Option Tmp} {v : LV} (h : putE n tm dst v = some tm') : ∃ tm2, putE n tm1 dst v = some tm2 := by
  unfold putE at h ⊢
  cases dst with
  | none => exact ⟨_, rfl⟩
  | some d =>
    simp only at h ⊢
    split at h
    · exact ⟨_, rfl⟩
    · cases h

/-- One more is done. -/
theorem TmAt.put {rs : List Rec} {S : Nat → Prop} {tm0 tm tm' : Tmps} {r : Rec} {dst : Option Tmp} (ht : TmAt ops rs S tm0 tm) (hr : r ∈ rs) (hd : dstOf ops r.i = dst) (hnot : ¬ S r.i) (hp : putE n tm dst r.v = some tm')
    (huniq : ∀ a ∈ rs, a.i = r.i → a = r) (hne : ∀ a ∈ rs, a.i ≠ r.i → ∀ t, dst = some t → dstOf ops a.i ≠ some t) : TmAt ops rs (fun i => i = r.i ∨ S i) tm0 tm' where
  on := fun a ha hs t hdt => by
    rw [putE_get hp]
    by_cases e : a.i = r.i
    · have := huniq a ha e
      subst this
      rw [if_pos (hd ▸ hdt)]
    · rw [if_neg fun k => hne a ha e t k hdt]
      exact ht.on a ha (hs.resolve_left e) t hdt
  off := fun t hall => by
    rw [putE_get hp, if_neg fun k => hall r hr (.inl rfl) (hd.trans k)]
    exact ht.off t fun a ha hs => hall a ha (.inr hs)
end
end Go.Ev

namespace Go.Ev
set_option linter.unusedSimpArgs false
set_option linter.unusedVariables false
section
variable {P : Program} {call : CallF} {yld : Nat → List LV → Heap → Option (LV × Heap)} {n : Nat} {ops : Array Oper} {ks : List Kind} {ms : List Nat} {rs : List Rec}

theorem uniq_i (hf : DrawFacts ops ks ms (rs.map (·.i))) {a b : Rec} (ha : a ∈ rs) (hb : b ∈ rs) (e : a.i = b.i) : a = b := by
  obtain ⟨s, t, hst⟩ := List.append_of_mem ha
  rw [hst] at hb
  rcases List.mem_append.1 hb with h | h
  · have := (hf.ord (s.map (·.i)) a.i (t.map (·.i)) (by simp [hst])).2.1
    exact absurd (List.mem_map.2 ⟨b, h, e.symm⟩) this
  · rcases List.mem_cons.1 h with h | h
    · exact h.symm
    · obtain ⟨t1, t2, ht⟩ := List.append_of_mem h
      have := (hf.ord ((s ++ a :: t1).map (·.i)) b.i (t2.map (·.i)) (by simp [hst, ht])).2.1
      exact absurd (List.mem_map.2 ⟨a, by simp, e⟩) this
theorem dst_ne (hf : DrawFacts ops ks ms (rs.map (·.i))) {r : Rec} (hr : r ∈ rs) : ∀ a ∈ rs, a.i ≠ r.i → ∀ t, dstOf ops r.i = some t → dstOf ops a.i ≠ some t := by
  intro a ha hne t ht k
  have lt : ∀ x ∈ rs, x.i < ops.size := fun x hx => by
    obtain ⟨s, u, e⟩ := List.append_of_mem hx
    exact (hf.ord (s.map (·.i)) x.i (u.map (·.i)) (by simp [e])).1
  obtain ⟨o, ho, _⟩ := hf.edge a.i (lt a ha)
  have := (hf.apart r.i a.i (lt r hr) (lt a ha) (fun e => hne e.symm) t o ht ho).1
  apply this
  simpa [dstOf, ho] using k
theorem TmAt.congr {S S' : Nat → Prop} {tm0 tm : Tmps} (h : TmAt ops rs S tm0 tm) (e : ∀ i, S i ↔ S' i) : TmAt ops rs S' tm0 tm :=
  ⟨fun r hr hs => h.on r hr ((e _).2 hs), fun t ht => h.off t fun r hr hs => ht r hr ((e _).1 hs)⟩

/-- The temporaries as they stand in the run that was made. -/
theorem canon (hf : DrawFacts ops ks ms (rs.map (·.i))) {tm0 : Tmps} : ∀ (l done l2 : List Rec) (tm tm1 : Tmps) (h h1 : Heap), rs = done ++ (l ++ l2) → TmAt ops rs (fun i => i ∈ done.map (·.i)) tm0 tm → RecsOk P call yld n ops l tm h tm1 h1 →
    TmAt ops rs (fun i => i ∈ (done ++ l).map (·.i)) tm0 tm1
  | [], done, l2, tm, tm1, h, h1, e, ht, hr => by
    obtain ⟨rfl, rfl⟩ := hr
    simpa using ht
  | r :: l, done, l2, tm, tm1, h, h1, e, ht, hr => by
    obtain ⟨a1, a2, o, hh, tm2, a3, a4, a5, a6, a7, a8⟩ := hr
    have hmem : r ∈ rs := by rw [e]; simp
    have hnot := (hf.ord (done.map (·.i)) r.i ((l ++ l2).map (·.i)) (by simp [e])).2.1
    have ht2 := ht.put hmem (dst := o.dst) (by simp [dstOf, a3]) hnot a7 (fun a ha e => uniq_i hf ha hmem e) (fun a ha hne t k => dst_ne hf hmem a ha hne t (by simpa [dstOf, a3] using k))
    have := canon hf l (done ++ [r]) l2 tm2 tm1 hh h1 (by simp [e]) (ht2.congr fun i => by simp [or_comm]) a8
    simpa using this

/-- What an operation names is as it was in the run that was made. -/
theorem agree (hf : DrawFacts ops ks ms (rs.map (·.i))) {tm0 tmS : Tmps} {h0 : Heap} {S : Nat → Prop} {l1 l2 : List Rec} {r : Rec} {o : Oper} (e : rs = l1 ++ r :: l2) (ho : ops[r.i]? = some o) (hpre : RecsOk P call yld n ops l1 tm0 h0 r.tm r.h)
    (closed : ∀ i, S i → ∀ j, j < ops.size → bit (ms.getD i 0) j = true → S j) (hS : ∀ j, j < ops.size → bit (ms.getD r.i 0) j = true → S j) (hnot : ¬ S r.i) (hSt : TmAt ops rs S tm0 tmS) :
    ∀ t ∈ namesOf ops o, tmS.get t = r.tm.get t := by
  intro t ht
  have hc := canon hf l1 [] (r :: l2) tm0 r.tm h0 r.h (by simpa using e) ⟨fun a _ k => by simp at k, fun _ _ => rfl⟩ hpre
  simp only [List.nil_append] at hc
  have hord := hf.ord (l1.map (·.i)) r.i (l2.map (·.i)) (by simp [e])
  have lt : ∀ x ∈ rs, x.i < ops.size := fun x hx => by
    obtain ⟨s, u, e⟩ := List.append_of_mem hx
    exact (hf.ord (s.map (·.i)) x.i (u.map (·.i)) (by simp [e])).1
  have hmem : r ∈ rs := by rw [e]; simp
  have both : (∀ a ∈ rs, S a.i → dstOf ops a.i ≠ some t) → (∀ a ∈ rs, a.i ∈ l1.map (·.i) → dstOf ops a.i ≠ some t) → tmS.get t = r.tm.get t := fun h1 h2 => (hSt.off t h1).trans (hc.off t h2).symm
  by_cases hex : ∃ a ∈ rs, dstOf ops a.i = some t
  · obtain ⟨a, ha, hd⟩ := hex
    have only : ∀ b ∈ rs, dstOf ops b.i = some t → b = a := fun b hb hdb => by
      by_cases k : b.i = a.i
      · exact uniq_i hf hb ha k
      · exact absurd hdb (dst_ne hf ha b hb k t hd)
    by_cases hai : a.i = r.i
    · have : a = r := uniq_i hf ha hmem hai
      subst this
      refine both (fun b hb hs k => ?_) (fun b hb hs k => ?_)
      · have := only b hb k; subst this; exact hnot hs
      · have := only b hb k; subst this; exact hord.2.1 hs
    · rcases (hf.apart a.i r.i (lt a ha) (lt r hmem) hai t o hd ho).2 with k | k | k
      · -- it stands behind
        refine both (fun b hb hs k' => ?_) (fun b hb hs k' => ?_)
        · have := only b hb k'; subst this; exact hnot (closed _ hs _ (lt r hmem) k)
        · have := only b hb k'
          subst this
          obtain ⟨s, u, hsu⟩ := List.append_of_mem (List.mem_map.1 hs).choose_spec.1
          have hbi := (List.mem_map.1 hs).choose_spec.2
          have hb2 := (hf.ord (s.map (·.i)) b.i ((u ++ r :: l2).map (·.i)) (by rw [e, hsu]; simp [hbi])).2.2.1 r.i (lt r hmem) k
          exact hord.2.1 (by rw [hsu]; simp only [List.map_append, List.mem_append]; exact .inl hb2)
      · have h1 := hSt.on a ha (hS a.i (lt a ha) k) t hd
        have h2 := hc.on a ha (hord.2.2.1 a.i (lt a ha) k) t hd
        rw [h1, h2]
      · exact absurd ht k
  · exact both (fun a ha _ k => hex ⟨a, ha, k⟩) (fun a ha _ k => hex ⟨a, ha, k⟩)

/-! ### memory -/
theorem Post.unborn {γ0 γ : G} {h0 h : Heap} {w0 w : World} (hp : Post γ0 h0 w0 γ h w) (o : HObj) : Post γ0 h0 w0 γ (h.new o).2 w := by
  have s := hp.sim
  refine hp.trans ⟨.refl γ, ⟨?_, ?_, s.lt, s.inj, ?_, s.ro⟩, by simp, fun b hb hn => ⟨hn, Heap.get_new_ne h o (by omega)⟩, fun b g l hl => .inl ⟨g, l, hl, rfl⟩, Nat.le_refl _, rfl, rfl, rfl, fun _ _ _ => rfl⟩
  · intro b x hx
    by_cases e : h.next = b
    · simp; omega
    · rw [Heap.get_new_ne h o e] at hx; have := s.dom b x hx; simp; omega
  · intro b g l hl
    have := s.mud b g l hl; simp; omega
  · intro b x hx
    by_cases e : h.next = b
    · subst e
      have hn := s.mu_next
      cases x <;> first | trivial | (intro g l hl; rw [hn g] at hl; cases hl)
    · rw [Heap.get_new_ne h o e] at hx
      exact s.obj b x hx

theorem Post.fill {γ0 γ : G} {h0 h : Heap} {w0 w : World} (hp : Post γ0 h0 w0 γ h w) {id : Nat} {o : HObj} {O : Obj} {sz n : Nat} (hid : ∀ g, γ.mu id g = none) (hge : h0.next ≤ id) (hlt : id < h.next) (hget : h.get id = some o)
    (hok : ObjOk (γ.bind id 0 ⟨w.heap.size, 0, sz, n⟩) (w.alloc O) id o) : Post γ0 h0 w0 (γ.bind id 0 ⟨w.heap.size, 0, sz, n⟩) h (w.alloc O) := by
  have s := hp.sim
  have hle := G.le_bind (l := ⟨w.heap.size, 0, sz, n⟩) (hid 0)
  have hsz : (w.alloc O).heap.size = w.heap.size + 1 := by simp
  refine ⟨hp.le.trans hle, ⟨s.dom, ?_, ?_, ?_, ?_, ?_⟩, hp.next, ?_, ?_, by have := hp.size; omega, hp.os, hp.tape, hp.output, fun r hr hn => ?_⟩
  · intro b g l hl
    rcases G.bind_some hl with ⟨rfl, _, _⟩ | hl
    · exact hlt
    · exact s.mud b g l hl
  · intro b g l hl
    rcases G.bind_some hl with ⟨_, _, rfl⟩ | hl
    · simp
    · have := s.lt b g l hl; omega
  · intro b g l b' g' l' h1 h2 e
    rcases G.bind_some h1 with ⟨e1, _, rfl⟩ | k1 <;> rcases G.bind_some h2 with ⟨e2, _, rfl⟩ | k2
    · exact ⟨e1.trans e2.symm, rfl, rfl⟩
    · have := s.lt _ _ _ k2; simp at e; omega
    · have := s.lt _ _ _ k1; simp at e; omega
    · exact s.inj _ _ _ _ _ _ k1 k2 e
  · intro b x hx
    by_cases e : id = b
    · subst e
      rw [hget] at hx
      cases hx
      exact hok
    · refine (s.obj b x hx).of hle (fun g => ?_) fun g l hl => allocOld w O _ (s.lt b g l hl)
      unfold G.bind; simp only; rw [if_neg (by rintro ⟨e', _⟩; exact e e'.symm)]
  · intro r x v hv
    obtain ⟨h1, h2⟩ := s.ro r x v hv
    have hr := blockLt h1
    refine ⟨(cellAllocOld w O hr).trans h1, fun b g l hl => ?_⟩
    rcases G.bind_some hl with ⟨_, _, rfl⟩ | hl
    · simp only at *; omega
    · exact h2 b g l hl
  · intro b hb hz
    obtain ⟨p1, p2⟩ := hp.born b hb hz
    refine ⟨fun g => ?_, p2⟩
    unfold G.bind; simp only; rw [if_neg (by rintro ⟨e', _⟩; omega)]; exact p1 g
  · intro b g l hl
    rcases G.bind_some hl with ⟨_, _, rfl⟩ | hl
    · right; exact hp.size
    · exact hp.fresh b g l hl
  · exact (allocOld w O r (by have := hp.size; omega)).trans (hp.keep r hr hn)

/-- Objects that the run has made, and that are not made here yet. -/
def Made (ks : List Kind) (r : Rec) : Prop := r.want = true ∧ ks.getD r.i .reads = .makes
structure Unb (P : Program) (ops : Array Oper) (ks : List Kind) (h0 : Heap) (S : Nat → Prop) (pre : List Rec) (h : Heap) (γ : G) : Prop where
  lo : ∀ r ∈ pre, Made ks r → h0.next ≤ r.h.next ∧ r.h.next < h.next
  un : ∀ r ∈ pre, Made ks r → ¬ S r.i → (∀ g, γ.mu r.h.next g = none) ∧ ∃ o nw, ops[r.i]? = some o ∧ evA P r.tm o.op = some nw ∧ r.v = nw.2 r.h.next ∧ h.get r.h.next = some nw.1
  inj : ∀ a ∈ pre, ∀ b ∈ pre, Made ks a → Made ks b → a.h.next = b.h.next → a = b

theorem Unb.weaken {h0 h : Heap} {S S' : Nat → Prop} {pre : List Rec} {γ : G} (u : Unb P ops ks h0 S pre h γ) (hs : ∀ i, S i → S' i) : Unb P ops ks h0 S' pre h γ :=
  ⟨u.lo, fun r hr hm hn => u.un r hr hm fun k => hn (hs _ k), u.inj⟩
theorem Unb.step {h0 h h1 : Heap} {S : Nat → Prop} {pre : List Rec} {γ γ1 : G} {w w1 : World} (u : Unb P ops ks h0 S pre h γ) (hp : Post γ h w γ1 h1 w1) : Unb P ops ks h0 S pre h1 γ1 where
  lo := fun r hr hm => ⟨(u.lo r hr hm).1, Nat.lt_of_lt_of_le (u.lo r hr hm).2 hp.next⟩
  un := fun r hr hm hn => by
    obtain ⟨g1, o, nw, g2, g3, g4, g5⟩ := u.un r hr hm hn
    obtain ⟨b1, b2⟩ := hp.born _ (u.lo r hr hm).2 g1
    exact ⟨b1, o, nw, g2, g3, g4, b2.trans g5⟩
  inj := u.inj
/-- One that makes nothing, or is not wanted. -/
theorem Unb.snoc {h0 h : Heap} {S : Nat → Prop} {pre : List Rec} {γ : G} {r : Rec} (u : Unb P ops ks h0 S pre h γ) (hn : ¬ Made ks r) : Unb P ops ks h0 S (pre ++ [r]) h γ where
  lo := fun a ha hm => by
    rcases List.mem_append.1 ha with k | k
    · exact u.lo a k hm
    · simp at k; subst k; exact absurd hm hn
  un := fun a ha hm => by
    rcases List.mem_append.1 ha with k | k
    · exact u.un a k hm
    · simp at k; subst k; exact absurd hm hn
  inj := fun a ha b hb hma hmb e => by
    rcases List.mem_append.1 ha with k | k
    · rcases List.mem_append.1 hb with k' | k'
      · exact u.inj a k b k' hma hmb e
      · simp at k'; subst k'; exact absurd hmb hn
    · simp at k; subst k; exact absurd hma hn

theorem kinds (hks : ks = ops.toList.map fun o => kindOf P o.op) {i : Nat} {o : Oper} (ho : ops[i]? = some o) : ks.getD i .reads = kindOf P o.op := by
  subst hks
  rw [List.getD_eq_getElem?_getD, List.getElem?_map]
  simp [ho]

/-- What the run did up to the next writer: memory is filled up. -/
theorem advance (hks : ks = ops.toList.map fun o => kindOf P o.op) {γ0 γ : G} {h0 : Heap} {w0 w : World} {S : Nat → Prop} : ∀ (mid pre : List Rec) (tm tm1 : Tmps) (h h1 : Heap), (∀ r ∈ mid, ks.getD r.i .reads ≠ .writes) →
    RecsOk P call yld n ops mid tm h tm1 h1 → Post γ0 h0 w0 γ h w → Unb P ops ks h0 S pre h γ → Post γ0 h0 w0 γ h1 w ∧ Unb P ops ks h0 S (pre ++ mid) h1 γ
  | [], pre, tm, tm1, h, h1, hw, hr, hp, u => by
    obtain ⟨rfl, rfl⟩ := hr
    simpa using And.intro hp u
  | r :: mid, pre, tm, tm1, h, h1, hw, hr, hp, u => by
    obtain ⟨a1, a2, o, hh, tm2, a3, a4, a5, a6, a7, a8⟩ := hr
    have hk := kinds hks a3
    have next : Post γ0 h0 w0 γ hh w ∧ Unb P ops ks h0 S (pre ++ [r]) hh γ := by
      cases hwant : r.want with
      | false =>
        obtain ⟨_, e⟩ := a6 hwant
        subst e
        exact ⟨hp, u.snoc fun m => by rw [Made, hwant] at m; exact absurd m.1 (by simp)⟩
      | true =>
        have hev := a5 hwant
        cases hkk : kindOf P o.op with
        | writes => exact absurd (hk.trans hkk) (hw r (by simp))
        | reads =>
          have := evOp_reads hkk hev
          subst this
          exact ⟨hp, u.snoc fun m => by have := hk.symm.trans m.2; rw [hkk] at this; cases this⟩
        | makes =>
          obtain ⟨nw, e1, e2, e3⟩ := evOp_makes hkk hev
          subst e3
          have hp' := hp.unborn nw.1
          refine ⟨hp', ?_⟩
          have hrn : r.h.next = h.next := by rw [a2]
          have old : ∀ a ∈ pre, Made ks a → a.h.next ≠ h.next := fun a ha hm => by have := (u.lo a ha hm).2; omega
          refine ⟨fun a ha hm => ?_, fun a ha hm hn => ?_, fun a ha b hb hma hmb e => ?_⟩
          · rcases List.mem_append.1 ha with k | k
            · have := u.lo a k hm; simp; omega
            · simp at k; subst k; simp; have := hp.next; omega
          · rcases List.mem_append.1 ha with k | k
            · obtain ⟨g1, o', nw', g2, g3, g4, g5⟩ := u.un a k hm hn
              exact ⟨g1, o', nw', g2, g3, g4, (Heap.get_new_ne h nw.1 (fun e => old a k hm e.symm)).trans g5⟩
            · simp at k; subst k
              refine ⟨fun g => by rw [hrn]; exact hp.sim.mu_next g, o, nw, a3, by rw [a1]; exact e1, by rw [hrn]; exact e2, by rw [hrn]; simp⟩
          · rcases List.mem_append.1 ha with k | k
            · rcases List.mem_append.1 hb with k' | k'
              · exact u.inj a k b k' hma hmb e
              · simp at k'; subst k'; exact absurd (e.trans hrn) (old a k hma)
            · simp at k; subst k
              rcases List.mem_append.1 hb with k' | k'
              · exact absurd (e.symm.trans hrn) (old b k' hmb)
              · simp at k'; exact k'.symm
    have := advance hks mid (pre ++ [r]) tm2 tm1 hh h1 (fun a ha => hw a (by simp [ha])) a8 next.1 next.2
    simpa using this
theorem front (ks : List Kind) : ∀ (l : List Rec), ∃ mid post, l = mid ++ post ∧ (∀ r ∈ mid, ks.getD r.i .reads ≠ .writes) ∧ (post = [] ∨ ∃ p post', post = p :: post' ∧ ks.getD p.i .reads = .writes)
  | [] => ⟨[], [], rfl, by simp, .inl rfl⟩
  | r :: l => by
    obtain ⟨mid, post, h1, h2, h3⟩ := front ks l
    by_cases hw : ks.getD r.i .reads = .writes
    · exact ⟨[], r :: l, rfl, by simp, .inr ⟨r, l, rfl, hw⟩⟩
    · refine ⟨r :: mid, post, by simp [h1], fun a ha => ?_, h3⟩
      rcases List.mem_cons.1 ha with rfl | k
      · exact hw
      · exact h2 a k

/-- What reads gives the same where it is done. -/
theorem chkRec_spec (hks : ks = ops.toList.map fun o => kindOf P o.op) {o : Oper} {r : Rec} {hl hq : Heap} {tmq tml : Tmps} {post : List Rec} (hpo : RecsOk P call yld n ops post tmq hq tml hl)
    (hd : post = [] ∨ ∃ p post', post = p :: post' ∧ ks.getD p.i .reads = .writes) : ∀ (pre : List Rec) (skip : Bool) (tm : Tmps) (h : Heap), chkRec P call yld ks ms o r hl skip (pre ++ post) = true → RecsOk P call yld n ops pre tm h tmq hq →
      (∀ a ∈ pre, ks.getD a.i .reads = .writes → bit (ms.getD a.i 0) r.i = false) → (skip = true → h = r.h) → hq = r.h ∨ sameAt P call yld o r hq = true
  | [], skip, tm, h, hc, hr, hb, hs => by
    obtain ⟨rfl, rfl⟩ := hr
    simp only [List.nil_append] at hc
    rcases hd with rfl | ⟨p, post', rfl, hw⟩
    · unfold chkRec at hc
      rw [Bool.or_eq_true] at hc
      obtain ⟨_, e⟩ := hpo
      rw [← e] at hc
      exact hc.imp hs id
    · unfold chkRec at hc
      rw [hw] at hc
      simp only [Bool.and_eq_true, Bool.or_eq_true] at hc
      rw [hpo.2.1] at hc
      exact hc.1.imp hs id
  | a :: pre, skip, tm, h, hc, hr, hb, hs => by
    obtain ⟨a1, a2, oa, hh, tm2, a3, a4, a5, a6, a7, a8⟩ := hr
    have hk := kinds hks a3
    rw [List.cons_append] at hc
    unfold chkRec at hc
    have hb' : ∀ b ∈ pre, ks.getD b.i .reads = .writes → bit (ms.getD b.i 0) r.i = false := fun b hb' => hb b (by simp [hb'])
    have unw : a.want = false → hh = h := fun k => (a6 k).2
    cases hkk : kindOf P oa.op with
    | reads =>
      rw [hk, hkk] at hc
      refine chkRec_spec hks hpo hd pre skip tm2 hh hc a8 hb' fun k => ?_
      cases hwant : a.want with
      | false => rw [unw hwant]; exact hs k
      | true => rw [evOp_reads hkk (a5 hwant)]; exact hs k
    | makes =>
      rw [hk, hkk] at hc
      refine chkRec_spec hks hpo hd pre _ tm2 hh hc a8 hb' fun k => ?_
      rw [Bool.and_eq_true] at k
      have hwant : a.want = false := by simpa using k.2
      rw [unw hwant]
      exact hs k.1
    | writes =>
      rw [hk, hkk] at hc
      simp only [Bool.and_eq_true, Bool.or_eq_true] at hc
      have hbf := hb a (by simp) (hk.trans hkk)
      rw [hbf] at hc
      exact chkRec_spec hks hpo hd pre false tm2 hh (hc.2.resolve_left (by simp)) a8 hb' (by simp)
end
end Go.Ev

namespace Go.Ev
set_option linter.unusedSimpArgs false
set_option linter.unusedVariables false
section
variable {P : Program} {call : CallF} {yld : Nat → List LV → Heap → Option (LV × Heap)} {n : Nat} {ops : Array Oper} {ks : List Kind} {ms : List Nat} {rs : List Rec}

structure Inv (P : Program) (call : CallF) (yld : Nat → List LV → Heap → Option (LV × Heap)) (n : Nat) (ops : Array Oper) (ks : List Kind) (ms : List Nat) (rs : List Rec)
    (γ0 : G) (h0 : Heap) (w0 : World) (tm0 tmF : Tmps) (hF : Heap) (S : Nat → Prop) (a : Act) (w : World) : Prop where
  inv : ∃ (pre post : List Rec) (hq : Heap) (tmq tmS : Tmps) (γ : G), rs = pre ++ post ∧ RecsOk P call yld n ops pre tm0 h0 tmq hq ∧ RecsOk P call yld n ops post tmq hq tmF hF ∧
    (∀ r ∈ post, ¬ S r.i) ∧ (∀ r ∈ pre, ks.getD r.i .reads = .writes → S r.i) ∧ (post = [] ∨ ∃ p post', post = p :: post' ∧ ks.getD p.i .reads = .writes) ∧
    TmAt ops rs S tm0 tmS ∧ Post γ0 h0 w0 γ hq w ∧ RT γ n tmS a.tmps ∧ Unb P ops ks h0 S pre hq γ
  closed : ∀ i, S i → ∀ j, j < ops.size → bit (ms.getD i 0) j = true → S j

/-- One operation of the region. -/
theorem Inv.step (hcall : SoundCall P call) (hyld : SoundYld P yld) (hks : ks = ops.toList.map fun o => kindOf P o.op) (hf : DrawFacts ops ks ms (rs.map (·.i))) {γ0 : G} {h0 : Heap} {w0 : World} {tm0 tmF : Tmps} {hF : Heap} {S : Nat → Prop} {a : Act} {w : World}
    (hchk : chkAll P call yld ops ks ms hF rs = true) (hI : Inv P call yld n ops ks ms rs γ0 h0 w0 tm0 tmF hF S a w) {i : Nat} (hi : i < ops.size) (hnot : ¬ S i) (hS : ∀ j, j < ops.size → bit (ms.getD i 0) j = true → S j)
    (b : Base) (k : List Item) (cs : List Frame) (is : List Nat) : ∃ a' w', Steps P (lone (b.at a (.inRegion ops (i :: is) :: k)) cs w) (lone (b.at a' (.inRegion ops is :: k)) cs w') ∧ a'.defers = a.defers ∧
      Inv P call yld n ops ks ms rs γ0 h0 w0 tm0 tmF hF (fun j => j = i ∨ S j) a' w' := by
  obtain ⟨⟨pre, post, hq, tmq, tmS, γ, hrs, hpre, hpost, h1, h2, h3, htm, hp, hrt, hu⟩, hcl⟩ := hI
  have hcl' : ∀ x, (x = i ∨ S x) → ∀ j, j < ops.size → bit (ms.getD x 0) j = true → (j = i ∨ S j) := fun x hx j hj hb => by
    rcases hx with rfl | hx
    · exact .inr (hS j hj hb)
    · exact .inr (hcl x hx j hj hb)
  obtain ⟨r, hr, hri⟩ := List.mem_map.1 (hf.all i hi)
  subst hri
  have hput : ∀ {o : Oper} {tm1 tm2 : Tmps}, ops[r.i]? = some o → putE n tm1 o.dst r.v = some tm2 → ∃ tmS', putE n tmS o.dst r.v = some tmS' ∧ TmAt ops rs (fun j => j = r.i ∨ S j) tm0 tmS' := by
    intro o tm1 tm2 ho hpt
    obtain ⟨tmS', e⟩ := putE_any (tm1 := tmS) hpt
    exact ⟨tmS', e, htm.put hr (by simp [dstOf, ho]) hnot e (fun x hx e => uniq_i hf hx hr e) (fun x hx hne t k => dst_ne hf hr x hx hne t (by simpa [dstOf, ho] using k))⟩
  by_cases hmem : r ∈ post
  · -- it is the writer whose turn it is
    rcases h3 with rfl | ⟨p, post', rfl, hpw⟩
    · cases hmem
    have hrp : r = p := by
      rcases List.mem_cons.1 hmem with e | hm
      · exact e
      · exfalso
        obtain ⟨s, u, hsu⟩ := List.append_of_mem hm
        have := (hf.ord ((pre ++ p :: s).map (·.i)) r.i (u.map (·.i)) (by simp [hrs, hsu])).2.2.2 p.i (by simp) hpw
        have hpi : p.i < ops.size := (hf.ord (pre.map (·.i)) p.i (post'.map (·.i)) (by simp [hrs])).1
        exact h1 p (by simp) (hS p.i hpi this)
    subst hrp
    obtain ⟨a1, a2, o, hh, tm2, a3, a4, a5, a6, a7, a8⟩ := hpost
    have hag := agree hf (l1 := pre) (l2 := post') hrs a3 (by rw [a1, a2]; exact hpre) hcl hS hnot htm
    have hw : wantedE ops tmS o = r.want := by rw [a4, wantedE_congr hag, a1]
    obtain ⟨tmS', e1, e2⟩ := hput a3 a7
    obtain ⟨mid, post2, g1, g2, g3⟩ := front ks post'
    rw [g1] at a8
    obtain ⟨tm3, h3', b1, b2⟩ := RecsOk.split mid post2 _ _ _ _ a8
    have hpre2 : RecsOk P call yld n ops (pre ++ [r] ++ mid) tm0 h0 tm3 h3' := by
      refine RecsOk.join (pre ++ [r]) mid _ _ _ _ _ _ (RecsOk.join pre [r] _ _ _ _ _ _ hpre ⟨a1, a2, o, hh, tm2, a3, a4, a5, a6, a7, ?_⟩) b1
      exact ⟨rfl, rfl⟩
    have hnd : ∀ x ∈ post2, ¬ (x.i = r.i ∨ S x.i) := fun x hx k => by
      have hxr : x ∈ r :: post' := by rw [g1]; simp [hx]
      rcases k with k | k
      · obtain ⟨s, u, hsu⟩ := List.append_of_mem hx
        have := (hf.ord ((pre ++ r :: mid ++ s).map (·.i)) x.i (u.map (·.i)) (by simp [hrs, g1, hsu])).2.1
        exact this (by rw [k]; simp)
      · exact h1 x hxr k
    -- done, memory is as the run left it
    have fin : ∀ a' w' γ', Post γ hq w γ' hh w' → RT γ' n tmS' a'.tmps → Inv P call yld n ops ks ms rs γ0 h0 w0 tm0 tmF hF (fun j => j = r.i ∨ S j) a' w' := by
      intro a' w' γ' hpw' hrt'
      have hu1 : Unb P ops ks h0 (fun j => j = r.i ∨ S j) (pre ++ [r]) hh γ' := ((hu.step hpw').weaken fun j hj => .inr hj).snoc fun m => by have := m.2; rw [hpw] at this; cases this
      obtain ⟨hp2, hu2⟩ := advance hks mid (pre ++ [r]) tm2 tm3 hh h3' g2 b1 (hp.trans hpw') hu1
      refine ⟨⟨pre ++ [r] ++ mid, post2, h3', tm3, tmS', γ', by simp [hrs, g1], hpre2, b2, hnd, fun x hx hxw => ?_, g3, e2, hp2, hrt', hu2⟩, hcl'⟩
      rcases List.mem_append.1 hx with hx | hx
      · rcases List.mem_append.1 hx with hx | hx
        · exact .inr (h2 x hx hxw)
        · simp at hx; subst hx; exact .inl rfl
      · exact absurd hxw (g2 x hx)
    cases hwant : r.want with
    | true =>
      have hev : evOp P call yld tmS o hq = some (r.v, hh) := by
        rw [evOp_congr (fun x hx t e => hag t (names_operand hx e)), a1]
        exact a5 hwant
      have hwr : Region.wanted o (yielded ops a.tmps) = true := (wanted_eq hrt o).trans (hw.trans hwant)
      obtain ⟨X, w1, ⟨γ1, hp1, hv1⟩, hst⟩ := evOp_good hcall hyld hp.sim hrt hev b k cs ops r.i is a3 hwr
      exact ⟨_, w1, hst, put_defers .., fin _ _ γ1 hp1 (RT.put (hrt.mono hp1.le) e1 hv1)⟩
    | false =>
      obtain ⟨v1, v2⟩ := a6 hwant
      have hwr : Region.wanted o (yielded ops a.tmps) = false := (wanted_eq hrt o).trans (hw.trans hwant)
      have hst := stepR_op_skip (P := P) (b := b) (a := a) (k := k) (cs := cs) (w := w) (ops := ops) (i := r.i) (rest := is) (by simp [a3, hwr])
      rw [a3] at hst
      refine ⟨_, w, .one hst, put_defers .., fin _ _ γ (by rw [v2]; exact .refl hp.sim) (RT.put hrt e1 ?_)⟩
      rw [v1]; exact RV_undef
  · -- it reads, or makes
    have hmem' : r ∈ pre := by
      rw [hrs] at hr
      exact (List.mem_append.1 hr).resolve_right hmem
    obtain ⟨l1, l2, hl⟩ := List.append_of_mem hmem'
    subst hl
    obtain ⟨tm1, h1', c1, c2⟩ := RecsOk.split l1 (r :: l2) _ _ _ _ hpre
    have c2' := c2
    obtain ⟨a1, a2, o, hh, tm2, a3, a4, a5, a6, a7, a8⟩ := c2
    have hag := agree hf (l1 := l1) (l2 := l2 ++ post) (by simpa using hrs) a3 (by rw [a1, a2]; exact c1) hcl hS hnot htm
    have hw : wantedE ops tmS o = r.want := by rw [a4, wantedE_congr hag, a1]
    obtain ⟨tmS', e1, e2⟩ := hput a3 a7
    have hk := kinds hks a3
    have hnw : ks.getD r.i .reads ≠ .writes := fun e => hnot (h2 r hmem' e)
    have fin : ∀ a' w' γ', Post γ0 h0 w0 γ' hq w' → RT γ' n tmS' a'.tmps → Unb P ops ks h0 (fun j => j = r.i ∨ S j) (l1 ++ r :: l2) hq γ' → Inv P call yld n ops ks ms rs γ0 h0 w0 tm0 tmF hF (fun j => j = r.i ∨ S j) a' w' := by
      intro a' w' γ' hp' hrt' hu'
      refine ⟨⟨l1 ++ r :: l2, post, hq, tmq, tmS', γ', hrs, hpre, hpost, fun x hx k => ?_, fun x hx hxw => .inr (h2 x hx hxw), h3, e2, hp', hrt', hu'⟩, hcl'⟩
      rcases k with k | k
      · obtain ⟨s, u, hsu⟩ := List.append_of_mem hx
        have := (hf.ord ((l1 ++ r :: l2 ++ s).map (·.i)) x.i (u.map (·.i)) (by simp [hrs, hsu])).2.1
        exact this (by rw [k]; simp)
      · exact h1 x hx k
    cases hwant : r.want with
    | false =>
      obtain ⟨v1, v2⟩ := a6 hwant
      have hwr : Region.wanted o (yielded ops a.tmps) = false := (wanted_eq hrt o).trans (hw.trans hwant)
      have hst := stepR_op_skip (P := P) (b := b) (a := a) (k := k) (cs := cs) (w := w) (ops := ops) (i := r.i) (rest := is) (by simp [a3, hwr])
      rw [a3] at hst
      refine ⟨_, w, .one hst, put_defers .., fin _ _ γ hp (RT.put hrt e1 ?_) (hu.weaken fun j hj => .inr hj)⟩
      rw [v1]; exact RV_undef
    | true =>
      have hwr : Region.wanted o (yielded ops a.tmps) = true := (wanted_eq hrt o).trans (hw.trans hwant)
      cases hkk : kindOf P o.op with
      | writes => exact absurd (hk.trans hkk) hnw
      | reads =>
        have hev0 : evOp P call yld r.tm o r.h = some (r.v, r.h) := by
          have := a5 hwant
          have e := evOp_reads hkk this
          rw [a1, a2]; rw [e] at this; exact this
        have hck : stillB o.op = true ∨ chkRec P call yld ks ms o r hF true (l2 ++ post) = true := by
          have key : ∀ (l : List Rec) (l' : List Rec), chkAll P call yld ops ks ms hF (l ++ r :: l') = true → stillB o.op = true ∨ chkRec P call yld ks ms o r hF true l' = true := by
            intro l l' hc
            induction l with
            | nil =>
              simp only [List.nil_append] at hc
              unfold chkAll at hc
              rw [Bool.and_eq_true] at hc
              have hc := hc.1
              rw [hwant, hk, hkk, a3] at hc
              simpa using hc
            | cons x l ih =>
              rw [List.cons_append] at hc
              unfold chkAll at hc
              rw [Bool.and_eq_true] at hc
              exact ih hc.2
          refine key l1 _ ?_
          rw [hrs] at hchk
          simpa using hchk
        have hbf : ∀ x ∈ l2, ks.getD x.i .reads = .writes → bit (ms.getD x.i 0) r.i = false := fun x hx hxw => by
          cases hb : bit (ms.getD x.i 0) r.i with
          | false => rfl
          | true => exact absurd (hcl x.i (h2 x (by simp [hx]) hxw) r.i hi hb) hnot
        have hhh : hh = r.h := by rw [a2]; exact evOp_reads hkk (a5 hwant)
        have hev : evOp P call yld tmS o hq = some (r.v, hq) := by
          rw [evOp_congr (fun x hx t e => hag t (names_operand hx e))]
          rcases hck with e | hck
          · exact evOp_still e hev0
          rcases chkRec_spec hks hpost h3 l2 true tm2 hh hck a8 hbf fun _ => hhh with e | e
          · rw [e]; exact hev0
          · unfold sameAt at e
            split at e
            · rename_i v hx he
              have := lvEq_eq _ _ _ e
              subst this
              rw [he, evOp_reads hkk he]
            · cases e
        obtain ⟨X, w1, ⟨γ1, hp1, hv1⟩, hst⟩ := evOp_good hcall hyld hp.sim hrt hev b k cs ops r.i is a3 hwr
        exact ⟨_, w1, hst, put_defers .., fin _ _ γ1 (hp.trans hp1) (RT.put (hrt.mono hp1.le) e1 hv1) ((hu.step hp1).weaken fun j hj => .inr hj)⟩
      | makes =>
        have hmade : Made ks r := ⟨hwant, hk.trans hkk⟩
        obtain ⟨g1, o', nw, g2, g3, g4, g5⟩ := hu.un r hmem' hmade hnot
        rw [a3] at g2
        cases g2
        obtain ⟨lo1, lo2⟩ := hu.lo r hmem' hmade
        have hev : evA P tmS o.op = some nw := by rw [evA_congr (fun x hx t e => hag t (names_operand hx e))]; exact g3
        obtain ⟨sem, hex, ⟨X, O, sz, m, q1, q2⟩, hd⟩ := evA_raw (P := P) (w := w) hrt hev
        obtain ⟨q3, q4⟩ := q2 r.h.next g1
        have hp' := hp.fill g1 lo1 lo2 g5 q3
        have hle : γ.le (γ.bind r.h.next 0 ⟨w.heap.size, 0, sz, m⟩) := G.le_bind (g1 0)
        have harr : OpArr P o a w (fun Y w' => Y = X ∧ w' = w.alloc O) := opArr_value (X := X) (w' := w.alloc O) hd (by rw [hex, Sem.run_bind, q1]; rfl) ⟨rfl, rfl⟩
        obtain ⟨X', w1, ⟨rfl, rfl⟩, hst⟩ := harr b k cs ops r.i is a3 hwr
        refine ⟨_, _, hst, put_defers .., fin _ _ _ hp' (RT.put (hrt.mono hle) e1 (by rw [g4]; exact q4)) ?_⟩
        refine ⟨hu.lo, fun x hx hm hn => ?_, hu.inj⟩
        have hne : x.i ≠ r.i := fun e => hn (.inl e)
        obtain ⟨y1, y2⟩ := hu.un x hx hm fun e => hn (.inr e)
        refine ⟨fun g => ?_, y2⟩
        unfold G.bind; simp only
        rw [if_neg]
        · exact y1 g
        · rintro ⟨e, _⟩
          exact hne (congrArg Rec.i (hu.inj x hx r hmem' hm hmade e))

theorem count_set : ∀ (l : List Bool) (i : Nat), l[i]? = some false → (l.set i true).count false + 1 = l.count false
  | [], i, h => by simp at h
  | b :: l, 0, h => by simp at h; subst h; simp
  | b :: l, i + 1, h => by
    have := count_set l i (by simpa using h)
    simp only [List.set_cons_succ, List.count_cons]
    omega
theorem count_zero : ∀ (l : List Bool), l.count false = 0 → ∀ i, i < l.length → l[i]? = some true
  | [], _, i, h => by simp at h
  | b :: l, h, i, hi => by
    simp only [List.count_cons] at h
    have hb : b = true := by cases b <;> simp at h ⊢
    cases i with
    | zero => simp [hb]
    | succ i => simpa using count_zero l (by omega) i (by simpa using hi)

theorem draw_go (hcall : SoundCall P call) (hyld : SoundYld P yld) (hks : ks = ops.toList.map fun o => kindOf P o.op) (hf : DrawFacts ops ks ms (rs.map (·.i))) {γ0 : G} {h0 : Heap} {w0 : World} {tm0 tmF : Tmps} {hF : Heap}
    (hchk : chkAll P call yld ops ks ms hF rs = true) : ∀ (fuel t : Nat) (listed : Array Bool) (a : Act) (w : World), listed.size = ops.size → listed.toList.count false ≤ fuel →
      Inv P call yld n ops ks ms rs γ0 h0 w0 tm0 tmF hF (fun i => listed.getD i false = true) a w → ∀ (b : Base) (k : List Item) (cs : List Frame),
        ∃ a' w', Steps P (lone (b.at a (.inRegion ops (Region.linearise.go .any ops fuel t listed []) :: k)) cs w) (lone (b.at a' (.inRegion ops [] :: k)) cs w') ∧ a'.defers = a.defers ∧ Inv P call yld n ops ks ms rs γ0 h0 w0 tm0 tmF hF (fun i => i < ops.size) a' w' := by
  intro fuel
  have done : ∀ (listed : Array Bool) (a : Act) (w : World), listed.size = ops.size → (∀ i, i < ops.size → listed.getD i false = true) → Inv P call yld n ops ks ms rs γ0 h0 w0 tm0 tmF hF (fun i => listed.getD i false = true) a w →
      Inv P call yld n ops ks ms rs γ0 h0 w0 tm0 tmF hF (fun i => i < ops.size) a w := by
    intro listed a w hs hall hI
    have : (fun i => listed.getD i false = true) = fun i => i < ops.size := by
      funext i
      apply propext
      refine ⟨fun e => ?_, hall i⟩
      rcases Nat.lt_or_ge i listed.size with k | k
      · omega
      · rw [Array.getD_eq_getD_getElem?, Array.getElem?_eq_none k] at e; cases e
    rw [← this]
    exact hI
  induction fuel with
  | zero =>
    intro t listed a w hs hc hI b k cs
    refine ⟨a, w, by simpa [Region.linearise.go] using Steps.refl .., rfl, done listed a w hs (fun i hi => ?_) hI⟩
    have := count_zero listed.toList (by omega) i (by simp; omega)
    rw [Array.getD_eq_getD_getElem?]
    simp at this
    simp [this]
  | succ fuel ih =>
    intro t listed a w hs hc hI b k cs
    simp only [Region.linearise.go]
    change ∃ a' w', Steps P (lone (b.at a (.inRegion ops (match (Region.ready .any ops listed)[t % (Region.ready .any ops listed).length]? with
      | some i => Region.linearise.go .any ops fuel (t / (Region.ready .any ops listed).length) (listed.setIfInBounds i true) [i]
      | none => [].reverse) :: k)) cs w) _ ∧ _
    cases hi : (Region.ready .any ops listed)[t % (Region.ready .any ops listed).length]? with
    | none =>
      have hnil : Region.ready .any ops listed = [] := by
        cases hr : Region.ready .any ops listed with
        | nil => rfl
        | cons x xs =>
          rw [hr] at hi
          have hlt : t % (x :: xs).length < (x :: xs).length := Nat.mod_lt _ (by simp)
          simp at hi
          simp at hlt
          omega
      refine ⟨a, w, by simpa using Steps.refl .., rfl, done listed a w hs (fun i hi => ?_) hI⟩
      -- the least one that is not listed would be ready
      induction i using Nat.strongRecOn with
      | ind i ihi =>
        by_cases hl : listed.getD i false = true
        · exact hl
        · exfalso
          obtain ⟨o, ho, he, _⟩ := hf.edge i hi
          have : i ∈ Region.ready .any ops listed := by
            rw [mem_ready]
            refine ⟨?_, o, ho, fun e hem hb => ?_⟩
            · rw [Array.getD_eq_getD_getElem?, Array.getElem?_eq_getElem (by omega)] at hl ⊢
              simpa using hl
            · obtain ⟨lt, _⟩ := he e (by simpa using hem) hb
              exact ihi e.on lt (by omega)
          rw [hnil] at this
          cases this
    | some i =>
      simp only []
      rw [linearise_go_acc, List.reverse_singleton, List.singleton_append]
      have hm := List.mem_of_getElem? hi
      rw [mem_ready] at hm
      obtain ⟨hl, o, ho, hall⟩ := hm
      have hlt : i < ops.size := (Array.getElem?_eq_some_iff.1 ho).1
      have hlf : listed[i]? = some false := by
        rw [Array.getD_eq_getD_getElem?, Array.getElem?_eq_getElem (by omega)] at hl
        rw [Array.getElem?_eq_getElem (by omega)]
        simpa using hl
      have hnot : ¬ listed.getD i false = true := by rw [Array.getD_eq_getD_getElem?, hlf]; simp
      obtain ⟨o', ho', hed, hmk⟩ := hf.edge i hlt
      rw [ho] at ho'
      cases ho'
      have hS : ∀ j, j < ops.size → bit (ms.getD i 0) j = true → listed.getD j false = true := fun j hj hb => by
        obtain ⟨e, hem, hbi, hlte, h5⟩ := hmk j hj hb
        have hon := hall e (by simpa using hem) hbi
        rcases h5 with rfl | h5
        · exact hon
        · exact hI.closed e.on hon j hj h5
      obtain ⟨a1, w1, hst, hd, hI1⟩ := hI.step hcall hyld hks hf hchk hlt hnot hS b k cs (Region.linearise.go .any ops fuel (t / (Region.ready .any ops listed).length) (listed.setIfInBounds i true) [])
      have hSe : (fun j => j = i ∨ listed.getD j false = true) = fun j => (listed.setIfInBounds i true).getD j false = true := by
        funext j
        apply propext
        by_cases e : i = j
        · subst e
          rw [Array.getD_eq_getD_getElem?, Array.getD_eq_getD_getElem?, Array.getElem?_setIfInBounds_self_of_lt (by omega)]
          simp
        · rw [getD_set_ne false e]
          exact ⟨fun h => h.resolve_left fun k => e k.symm, .inr⟩
      rw [hSe] at hI1
      obtain ⟨a2, w2, hst2, hd2, hI2⟩ := ih (t / (Region.ready .any ops listed).length) (listed.setIfInBounds i true) a1 w1 (by simp [hs]) (by
        have := count_set listed.toList i (by simpa using hlf)
        simp only [Array.toList_setIfInBounds]
        omega) hI1 b k cs
      exact ⟨a2, w2, hst.trans hst2, hd2.trans hd, hI2⟩

theorem evDraw_sound (hcall : SoundCall P call) (hyld : SoundYld P yld) : SoundDraw P call yld := by
  intro n ops tm h tm' h' he γ w a s ht t b k cs
  unfold evDraw at he
  simp only at he
  split at he
  · cases he
  · rename_i hok
    obtain ⟨⟨rs, tmF, hF⟩, hrun, he⟩ := bnd he
    simp only at he
    split at he
    · rename_i hchk
      simp only [Option.some.injEq, Prod.mk.injEq] at he
      obtain ⟨rfl, rfl⟩ := he
      obtain ⟨hrecs, hord⟩ := drawRun_recs _ _ _ _ _ _ hrun
      have hf := drawOk_facts hok
      rw [← hord] at hf
      obtain ⟨mid, post, g1, g2, g3⟩ := front (ops.toList.map fun o => kindOf P o.op) rs
      have hrecs' := hrecs
      rw [g1] at hrecs'
      obtain ⟨tm1, h1, b1, b2⟩ := RecsOk.split mid post _ _ _ _ hrecs'
      obtain ⟨hp1, hu1⟩ := advance rfl (S := fun i => (Array.replicate ops.size false).getD i false = true) mid [] tm tm1 h h1 g2 b1 (.refl s) ⟨by simp, by simp, by simp⟩
      have hfalse : ∀ i, ¬ (Array.replicate ops.size false).getD i false = true := fun i => by
        rw [Array.getD_eq_getD_getElem?, Array.getElem?_replicate]
        split <;> simp
      have hI : Inv P call yld n ops (ops.toList.map fun o => kindOf P o.op) (masks ops.toList []) rs γ h w tm tmF hF (fun i => (Array.replicate ops.size false).getD i false = true) a w :=
        ⟨⟨mid, post, h1, tm1, tm, γ, g1, b1, b2, fun r _ => hfalse r.i, fun r hr hw => absurd hw (g2 r hr), g3, ⟨fun r _ k => absurd k (hfalse r.i), fun _ _ => rfl⟩, hp1, ht, by simpa using hu1⟩, fun i k => absurd k (hfalse i)⟩
      obtain ⟨a', w', hst, hd, hI'⟩ := draw_go hcall hyld rfl hf hchk ops.size t (Array.replicate ops.size false) a w (by simp) (by simp [List.count_replicate]) hI b k cs
      obtain ⟨⟨pre, post', hq, tmq, tmS, γ', q1, q2, q3, q4, q5, q6, q7, q8, q9, q10⟩, _⟩ := hI'
      have lt : ∀ x ∈ rs, x.i < ops.size := fun x hx => by
        obtain ⟨s, u, e⟩ := List.append_of_mem hx
        exact (hf.ord (s.map (·.i)) x.i (u.map (·.i)) (by simp [e])).1
      have hpe : post' = [] := by
        cases post' with
        | nil => rfl
        | cons x l => exact absurd (lt x (by rw [q1]; simp)) (q4 x (by simp))
      subst hpe
      obtain ⟨rfl, rfl⟩ := q3
      have hc := canon hf rs [] [] tm _ h _ (by simp) ⟨fun a _ k => by simp at k, fun _ _ => rfl⟩ hrecs
      have htm : ∀ t, tmS.get t = tmq.get t := fun t => by
        by_cases hex : ∃ x ∈ rs, dstOf ops x.i = some t
        · obtain ⟨x, hx, hd⟩ := hex
          rw [q7.on x hx (lt x hx) t hd, hc.on x hx (by simpa using ⟨x, hx, rfl⟩) t hd]
        · rw [q7.off t fun x hx _ k => hex ⟨x, hx, k⟩, hc.off t fun x hx _ k => hex ⟨x, hx, k⟩]
      refine ⟨a', w', γ', ?_, hd, q8, q9.1, fun t => by rw [← htm t]; exact q9.2 t⟩
      exact Steps.trans hst (.one stepR_region_end)
    · cases he
end
end Go.Ev

namespace Go.Ev
set_option linter.unusedSimpArgs false
set_option linter.unusedVariables false

/-- What is asked of the program. -/
structure ProgOk (P : Program) : Prop where
  mix : P.follows .mixedOrders = true
  names : ∀ (f : FuncId) (fn : Func), P.funcs[f]? = some fn → fn.body.isSome → fn.name ≠ "runtime.NumGoroutine"
/-- What is asked of an answer that is given ahead. -/
def OvOk (P : Program) (ov : Ov) : Prop := ∀ f F, ov f = some F → ∀ args h r h', F args h = some (r, h') → ∀ (γ : G) (w : World) (xs : Array Value), Sim γ h w → RVs γ args xs.toList →
  CallArr P f xs w fun X w' => ∃ γ', Post γ h w γ' h' w' ∧ RV γ' r X

theorem ev_sound {P : Program} (hP : ProgOk P) {ov : Ov} (hov : OvOk P ov) : ∀ k, SoundRun P (ev P ov k)
  | 0 => fun _ _ _ _ _ _ _ h => by cases h
  | k + 1 => by
    have ih := ev_sound hP hov k
    have hc := callE_sound hov hP.names ih
    exact stepE_sound hc (evDraw_sound hc (yieldE_sound ih)) hP.mix ih
theorem evF_sound {P : Program} (hP : ProgOk P) {ov : Ov} (hov : OvOk P ov) (k : Nat) : SoundCall P (evF P ov k) := callE_sound hov hP.names (ev_sound hP hov k)
theorem ovNone {P : Program} : OvOk P (fun _ => none) := fun _ _ h => by cases h
#print axioms evF_sound
end Go.Ev

namespace Go.Ev
noncomputable section
set_option linter.unusedSimpArgs false
set_option linter.unusedVariables false

/-! ## Functions that are answered by value: they run in an empty memory, on what their arguments show -/
/-- Nothing in it tells of memory. -/
def bareV : Nat → LV → Bool
  | 0, _ => false
  | d + 1, v => match v with
    | .bool _ | .int _ _ | .str _ | .nilp | .nils | .nilm | .nilf | .nili => true
    | .agg cs | .tuple cs => cs.all (bareV d)
    | .iface _ v => bareV d v
    | .fn _ a b => a.all (bareV d) && b.all (bareV d)
    | _ => false
def rowLen (h : Heap) (b : Nat) : Nat := match h.get b with | some (.row cs _ _) => cs.length | _ => 0
/-- What it shows, as it stands. -/
def freezeV (h : Heap) : Nat → LV → Option LV
  | 0, _ => none
  | d + 1, v => match v with
    | .slice _ _ _ n _ _ => (viewCells h v).bind fun cs => (cs.mapM (freezeV h d)).map fun us => .vs us n
    | .vs cs n => (cs.mapM (freezeV h d)).map fun us => .vs us n
    | .vptr cs => (cs.mapM (freezeV h d)).map .vptr
    | .ptr b g o => (readN h b g o (rowLen h b - o)).bind fun cs => (cs.mapM (freezeV h d)).map .vptr
    | .agg cs => (cs.mapM (freezeV h d)).map .agg
    | .tuple cs => (cs.mapM (freezeV h d)).map .tuple
    | .bool _ | .int _ _ | .str _ | .nilp | .nils | .nilm | .nilf | .nili => some v
    | .iface t u => (freezeV h d u).map (.iface t)
    | .fn f a b => (a.mapM (freezeV h d)).bind fun a => (b.mapM (freezeV h d)).map fun b => .fn f a b
    | _ => none

section
variable {P : Program} {γ : G} {h h' : Heap} {w : World}
def frozenG (w : World) : G := ⟨fun _ _ => none, fun r o => w.cell? ⟨r, o, none⟩⟩
theorem frozen_sim (w : World) : Sim (frozenG w) Heap.empty w where
  dom := fun b o hb => by simp [Heap.get, Heap.empty, T.get_nil] at hb
  mud := fun b g l hl => by cases hl
  lt := fun b g l hl => by cases hl
  inj := fun b g l _ _ _ hl => by cases hl
  obj := fun b o hb => by simp [Heap.get, Heap.empty, T.get_nil] at hb
  ro := fun r o v hv => ⟨hv, fun b g l hl => by cases hl⟩

theorem bare_rel {γ' : G} : ∀ (d : Nat) (v : LV) (X : Value), bareV d v = true → RV γ v X → RV γ' v X
  | 0, v, X, hp, _ => by cases hp
  | d + 1, v, X, hp, hr => by
    have lists : ∀ (cs : List LV) (xs : Array Value), (cs.all (bareV d)) = true → (∀ (i : Nat) (v : LV) (x : Value), cs[i]? = some v → xs[i]? = some x → RV γ v x) → ∀ (i : Nat) (v : LV) (x : Value), cs[i]? = some v → xs[i]? = some x → RV γ' v x :=
      fun cs xs ha hh i v x h1 h2 => bare_rel d v x (List.all_eq_true.1 ha v (List.mem_of_getElem? h1)) (hh i v x h1 h2)
    unfold bareV at hp
    cases hr <;> simp only at hp <;> try cases hp
    case bool b => exact .bool b
    case int k n => exact .int k n
    case str s bs hh => exact .str s bs hh
    case nilp => exact .nilp
    case nils => exact .nils
    case nilm => exact .nilm
    case fn f fs cs fa ca hf hc h1 h2 =>
      rw [Bool.and_eq_true] at hp
      exact .fn f fs cs fa ca hf hc (lists _ _ hp.1 h1) (lists _ _ hp.2 h2)
    case nilf => exact .nilf
    case iface t v x hh => exact .iface t v x (bare_rel d v x hp hh)
    case nili => exact .nili
    case agg cs xs hs hh => exact .agg cs xs hs (lists _ _ hp hh)
    case tuple cs xs hs hh => exact .tuple cs xs hs (lists _ _ hp hh)

theorem mapM_get {f : LV → Option LV} {l r : List LV} (e : l.mapM f = some r) : r.length = l.length ∧ ∀ (i : Nat) u, r[i]? = some u → ∃ v, l[i]? = some v ∧ f v = some u := by
  obtain ⟨h1, h2⟩ := mapM_opt l r e
  refine ⟨h1, fun i u hu => ?_⟩
  have hlt : i < l.length := by
    rcases Nat.lt_or_ge i l.length with k | k
    · exact k
    · rw [List.getElem?_eq_none (by omega)] at hu; cases hu
  obtain ⟨u', h3, h4⟩ := h2 i l[i] (by simp [hlt])
  rw [hu] at h3
  cases h3
  exact ⟨l[i], by simp [hlt], h4⟩

theorem freeze_rel (s : Sim γ h w) : ∀ (d : Nat) (v u : LV) (X : Value), freezeV h d v = some u → RV γ v X → RV (frozenG w) u X
  | 0, v, u, X, hp, _ => by cases hp
  | d + 1, v, u, X, hp, hr => by
    have lists : ∀ (cs us : List LV) (xs : Array Value), cs.mapM (freezeV h d) = some us → (∀ (i : Nat) (v : LV) (x : Value), cs[i]? = some v → xs[i]? = some x → RV γ v x) → us.length = cs.length ∧ ∀ (i : Nat) (v : LV) (x : Value), us[i]? = some v → xs[i]? = some x → RV (frozenG w) v x := by
      intro cs us xs e hh
      obtain ⟨h1, h2⟩ := mapM_get e
      refine ⟨h1, fun i v x h3 h4 => ?_⟩
      obtain ⟨v0, h5, h6⟩ := h2 i v h3
      exact freeze_rel s d v0 v x h6 (hh i v0 x h5 h4)
    have ros : ∀ (cs us : List LV) (a : Addr) (f : Nat → Value), cs.mapM (freezeV h d) = some us → (∀ (i : Nat) (v : LV), cs[i]? = some v → a.spot = none ∧ γ.ro a.block (a.off + i) = some (f i)) → (∀ (i : Nat) (v : LV), cs[i]? = some v → RV γ v (f i)) →
        (∀ (i : Nat) (v : LV), us[i]? = some v → a.spot = none ∧ (frozenG w).ro a.block (a.off + i) = some (f i)) ∧ (∀ (i : Nat) (v : LV), us[i]? = some v → RV (frozenG w) v (f i)) := by
      intro cs us a f e h1 h2
      obtain ⟨_, h3⟩ := mapM_get e
      refine ⟨fun i v hv => ?_, fun i v hv => ?_⟩
      · obtain ⟨v0, h5, h6⟩ := h3 i v hv
        exact ⟨(h1 i v0 h5).1, (s.ro _ _ _ (h1 i v0 h5).2).1⟩
      · obtain ⟨v0, h5, h6⟩ := h3 i v hv
        exact freeze_rel s d v0 v _ h6 (h2 i v0 h5)
    unfold freezeV at hp
    cases hr <;> simp only at hp <;> try cases hp
    case bool b => exact .bool b
    case int k n => exact .int k n
    case str s bs hh => exact .str s bs hh
    case nilp => exact .nilp
    case vptr cells a f hf hh =>
      obtain ⟨us, hu, e⟩ := mp hp
      cases e
      obtain ⟨r1, r2⟩ := ros _ us a f hu hf hh
      exact .vptr us a f r1 r2
    case nils => exact .nils
    case ptr b g o l hm hd =>
      obtain ⟨cs, hcs, hp⟩ := bnd hp
      obtain ⟨us, hu, e⟩ := mp hp
      cases e
      obtain ⟨h1, c, e, lo, hi, hcw, hs, hin, hrv⟩ := read_row s hcs hm hd
      obtain ⟨hul, hug⟩ := mapM_get hu
      refine .vptr us ⟨l.r, o - l.d, none⟩ (fun i => c.getD (o - l.d + i) Go.undef) (fun i v hv => ⟨rfl, ?_⟩) (fun i v hv => ?_)
      · have hlt : i < us.length := by
          rcases Nat.lt_or_ge i us.length with k | k
          · exact k
          · rw [List.getElem?_eq_none k] at hv; cases hv
        have : o - l.d + i < c.size := by omega
        simp [frozenG, World.cell?, hcw, this]
      · obtain ⟨v0, h5, h6⟩ := hug i v hv
        have hlt : i < cs.length := by
          rcases Nat.lt_or_ge i cs.length with k | k
          · exact k
          · rw [List.getElem?_eq_none k] at h5; cases h5
        have hci : o - l.d + i < c.size := by omega
        refine freeze_rel s d v0 v _ h6 (hrv.2 i v0 _ h5 ?_)
        rw [Array.getElem?_toList, Array.getElem?_extract, if_pos (by omega), Array.getElem?_eq_getElem hci]
        simp [hci]
    case slice b g o len cap es l a rc hm hd hc hn hl hr' ha =>
      obtain ⟨cs, hcs, hp⟩ := bnd hp
      obtain ⟨us, hu, e⟩ := mp hp
      cases e
      simp only [viewCells] at hcs
      by_cases h0 : rc = 0
      · have hlen : len = 0 := by omega
        subst hlen
        have hcs0 : cs = [] := by
          have := (read_row s hcs hm hd).1
          cases cs with
          | nil => rfl
          | cons _ _ => simp at this
        subst hcs0
        have : us = [] := by have := (mapM_get hu).1; simpa using this
        subst this
        exact .vs [] 0 a rc (fun _ => Go.undef) (by omega) (fun i v k => by simp at k) (fun i v k => by simp at k)
      · rw [ha h0]
        obtain ⟨h1, c, e, lo, hi, hcw, hs, hin, hrv⟩ := read_row s hcs hm hd
        have hcl := h1
        obtain ⟨hul, hug⟩ := mapM_get hu
        refine .vs us len ⟨l.r, o - l.d, none⟩ rc (fun i => c.getD (o - l.d + i) Go.undef) hl (fun i v hv => ⟨rfl, ?_⟩) (fun i v hv => ?_)
        · have hlt : i < us.length := by
            rcases Nat.lt_or_ge i us.length with k | k
            · exact k
            · rw [List.getElem?_eq_none k] at hv; cases hv
          have : o - l.d + i < c.size := by omega
          simp [frozenG, World.cell?, hcw, this]
        · obtain ⟨v0, h5, h6⟩ := hug i v hv
          have hlt : i < cs.length := by
            rcases Nat.lt_or_ge i cs.length with k | k
            · exact k
            · rw [List.getElem?_eq_none k] at h5; cases h5
          have hci : o - l.d + i < c.size := by omega
          have hile : i < len * es := h1 ▸ hlt
          refine freeze_rel s d v0 v _ h6 (hrv.2 i v0 _ h5 ?_)
          rw [Array.getElem?_toList, Array.getElem?_extract, if_pos (by omega), Array.getElem?_eq_getElem hci]
          simp [hci]
    case vs cells len a rc f hl hf hh =>
      obtain ⟨us, hu, e⟩ := mp hp
      cases e
      obtain ⟨r1, r2⟩ := ros _ us a f hu hf hh
      exact .vs us len a rc f hl r1 r2
    case nilm => exact .nilm
    case fn f fs cs fa ca hf hc h1 h2 =>
      obtain ⟨us, hu, hp⟩ := bnd hp
      obtain ⟨us', hu', e⟩ := mp hp
      cases e
      obtain ⟨l1, l2⟩ := lists _ _ fa hu h1
      obtain ⟨l3, l4⟩ := lists _ _ ca hu' h2
      exact .fn f us us' fa ca (by omega) (by omega) l2 l4
    case nilf => exact .nilf
    case iface t v x hh =>
      obtain ⟨u', hu, e⟩ := mp hp
      cases e
      exact .iface t u' x (freeze_rel s d v u' x hu hh)
    case nili => exact .nili
    case agg cs xs hs hh =>
      obtain ⟨us, hu, e⟩ := mp hp
      cases e
      obtain ⟨l1, l2⟩ := lists _ _ xs hu hh
      exact .agg us xs (by omega) l2
    case tuple cs xs hs hh =>
      obtain ⟨us, hu, e⟩ := mp hp
      cases e
      obtain ⟨l1, l2⟩ := lists _ _ xs hu hh
      exact .tuple us xs (by omega) l2

/-- What such a function gives: at most one new row, and the value that tells it. -/
abbrev Gift := Option HObj × (Nat → LV)
def rowOf (h : Heap) (b : Nat) : Option HObj :=
  match h.get b with
  | some (.row cs gen wlo) => match cs.all (bareV 10) with | true => some (.row cs gen wlo) | false => none
  | _ => none
def giftE (h : Heap) (r : LV) : Option Gift :=
  match bareV 10 r with
  | true => some (none, fun _ => r)
  | false => match r with
    | .slice b g o n cap es => (rowOf h b).map fun ob => (some ob, fun id => .slice id g o n cap es)
    | .tuple (.slice b g o n cap es :: rest) => match rest.all (bareV 10) with
      | true => (rowOf h b).map fun ob => (some ob, fun id => .tuple (.slice id g o n cap es :: rest))
      | false => none
    | _ => none
def putGift (h : Heap) : Gift → LV × Heap
  | (none, mk) => (mk 0, h)
  | (some o, mk) => (mk h.next, (h.new o).2)
abbrev Pure := List LV → Option Gift
def pureCall (F : Pure) : List LV → Heap → Option (LV × Heap) := fun args h => (args.mapM (freezeV h 10)).bind fun vs => (F vs).map (putGift h)
end
end
end Go.Ev

namespace Go.Ev
noncomputable section
set_option linter.unusedSimpArgs false
set_option linter.unusedVariables false
section
variable {P : Program} {γ : G} {h h' : Heap} {w : World}

/-- A block that another memory made comes into this one. -/
theorem Sim.adopt (s : Sim γ h w) {g : Nat} {l : Loc} {ob : HObj} (hl : l.r < w.heap.size) (hf : ∀ b g' l', γ.mu b g' = some l' → l'.r ≠ l.r) (hro : ∀ r o v, γ.ro r o = some v → r ≠ l.r)
    (ok : ObjOk (γ.bind h.next g l) w h.next ob) : Sim (γ.bind h.next g l) (h.new ob).2 w := by
  have hle := G.le_bind (l := l) (s.mu_next g)
  refine ⟨?_, ?_, ?_, ?_, ?_, ?_⟩
  · intro b x hx
    by_cases e : h.next = b
    · simp; omega
    · rw [Heap.get_new_ne h ob e] at hx; have := s.dom b x hx; simp; omega
  · intro b g' l' hl'
    rcases G.bind_some hl' with ⟨rfl, _, _⟩ | hl'
    · simp
    · have := s.mud b g' l' hl'; simp; omega
  · intro b g' l' hl'
    rcases G.bind_some hl' with ⟨_, _, rfl⟩ | hl'
    · exact hl
    · exact s.lt b g' l' hl'
  · intro b g' l1 b' g'' l2 h1 h2 e
    rcases G.bind_some h1 with ⟨e1, _, rfl⟩ | k1 <;> rcases G.bind_some h2 with ⟨e2, _, rfl⟩ | k2
    · exact ⟨e1.trans e2.symm, rfl, rfl⟩
    · exact absurd e.symm (hf _ _ _ k2)
    · exact absurd e (hf _ _ _ k1)
    · exact s.inj _ _ _ _ _ _ k1 k2 e
  · intro b x hx
    by_cases e : h.next = b
    · subst e; simp at hx; subst hx; exact ok
    · rw [Heap.get_new_ne h ob e] at hx
      refine (s.obj b x hx).of hle (fun g' => ?_) fun _ _ _ => rfl
      unfold G.bind; simp only; rw [if_neg (by rintro ⟨e', _⟩; exact e e'.symm)]
  · intro r x v hv
    obtain ⟨h1, h2⟩ := s.ro r x v hv
    refine ⟨h1, fun b g' l' hl' => ?_⟩
    rcases G.bind_some hl' with ⟨_, _, rfl⟩ | hl'
    · exact fun e => hro r x v hv e.symm
    · exact h2 b g' l' hl'

theorem adopt_row {γ1 : G} {h1 : Heap} {w1 : World} (s : Sim γ h w) (hp : Post (frozenG w) Heap.empty w γ1 h1 w1) {b g : Nat} {l : Loc} {ob : HObj} (hm : γ1.mu b g = some l) (hb : rowOf h1 b = some ob) :
    Post γ h w (γ.bind h.next g l) (h.new ob).2 w1 := by
  have hr : w.heap.size ≤ l.r := by
    rcases hp.fresh b g l hm with ⟨_, _, k, _⟩ | k
    · cases k
    · exact k
  have hk : ∀ r, r < w.heap.size → w1.heap[r]? = w.heap[r]? := fun r hr => hp.keep r hr (fun b g l k => by cases k)
  have s1 : Sim γ h w1 := s.grow hp.size hk
  have hle := G.le_bind (l := l) (s.mu_next g)
  unfold rowOf at hb
  split at hb
  · rename_i cs gen wlo hget
    split at hb
    · rename_i hplain
      cases hb
      have hok : ObjOk (γ.bind h.next g l) w1 h.next (.row cs gen wlo) := by
        intro g' l' hl'
        have hgl : g' = g ∧ l' = l := by
          rcases G.bind_some hl' with ⟨_, e1, e2⟩ | k
          · exact ⟨e1, e2⟩
          · rw [s.mu_next] at k; cases k
        obtain ⟨rfl, rfl⟩ := hgl
        obtain ⟨a1, a2, a3, a4, c, e, lo, hi, a5, a6, a7, a8⟩ := hp.sim.obj b _ hget g' l' hm
        refine ⟨a1, a2, a3, a4, c, e, lo, hi, a5, a6, a7, fun i v hi hd hg => ?_⟩
        obtain ⟨x, hx, hxr⟩ := a8 i v hi hd hg
        exact ⟨x, hx, bare_rel 10 v x (List.all_eq_true.1 hplain v (List.mem_of_getElem? hi)) hxr⟩
      have sim := s1.adopt (hp.sim.lt b g l hm) (fun b' g' l' k => by have := s.lt b' g' l' k; omega) (fun r o v k => by have := blockLt (s.ro r o v k).1; omega) hok
      refine ⟨hle, sim, by simp, fun b' hb' hn => ⟨fun g' => ?_, Heap.get_new_ne h _ (by omega)⟩, fun b' g' l' hl' => ?_, hp.size, hp.os, hp.tape, hp.output, fun r hr _ => hk r hr⟩
      · unfold G.bind; simp only; rw [if_neg (by rintro ⟨e', _⟩; omega)]; exact hn g'
      · rcases G.bind_some hl' with ⟨_, _, rfl⟩ | hl'
        · exact .inr hr
        · exact .inl ⟨g', l', hl', rfl⟩
    · cases hb
  · cases hb

theorem gift_rel {γ1 : G} {h1 : Heap} {w1 : World} (s : Sim γ h w) (hp : Post (frozenG w) Heap.empty w γ1 h1 w1) {r : LV} {X : Value} (hr : RV γ1 r X) {p : Gift} (hg : giftE h1 r = some p) :
    ∃ γ', Post γ h w γ' (putGift h p).2 w1 ∧ RV γ' (putGift h p).1 X := by
  have hk : ∀ r, r < w.heap.size → w1.heap[r]? = w.heap[r]? := fun r hr => hp.keep r hr (fun b g l k => by cases k)
  unfold giftE at hg
  split at hg
  · rename_i hb
    cases hg
    exact ⟨γ, .grow s hp.size hk hp.os hp.tape hp.output, bare_rel 10 r X hb hr⟩
  · split at hg
    · rename_i b g o n cap es
      obtain ⟨ob, hob, e⟩ := mp hg
      cases e
      cases hr with
      | slice _ _ _ _ _ _ l a rc hm hd hc hn hl hr' ha =>
        exact ⟨_, adopt_row s hp hm hob, .slice _ _ _ _ _ _ l a rc (G.bind_same ..) hd hc hn hl hr' ha⟩
    · rename_i b g o n cap es rest _
      split at hg
      · rename_i hrest
        obtain ⟨ob, hob, e⟩ := mp hg
        cases e
        cases hr with
        | tuple _ xs hs hh =>
          have h0 : 0 < xs.size := by simp at hs; omega
          have hx := hh 0 _ xs[0] rfl (by simp [h0])
          generalize hX0 : xs[0] = X0 at hx
          cases hx with
          | slice _ _ _ _ _ _ l a rc hm hd hc hn hl hr' ha =>
            refine ⟨_, adopt_row s hp hm hob, .tuple _ xs (by simpa using hs) fun i v x h1 h2 => ?_⟩
            cases i with
            | zero =>
              simp at h1
              subst h1
              have : x = xs[0] := by simp [h0] at h2; exact h2.symm
              rw [this, hX0]
              exact .slice _ _ _ _ _ _ l a rc (G.bind_same ..) hd hc hn hl hr' ha
            | succ i =>
              have h1' : rest[i]? = some v := by simpa using h1
              exact bare_rel 10 v x (List.all_eq_true.1 hrest v (List.mem_of_getElem? h1')) (hh (i + 1) v x (by simpa using h1') h2)
      · cases hg
    · cases hg

/-- What such a function may be told by. -/
def PureOk (P : Program) (ov : Ov) (f : FuncId) (F : Pure) : Prop := ∀ vs p, F vs = some p → ∃ k r h1, evF P ov k f vs Heap.empty = some (r, h1) ∧ giftE h1 r = some p
theorem pure_sound (hP : ProgOk P) {ov : Ov} (hov : OvOk P ov) {f : FuncId} {F : Pure} (hF : PureOk P ov f F) : ∀ args h r h', pureCall F args h = some (r, h') → ∀ (γ : G) (w : World) (xs : Array Value), Sim γ h w → RVs γ args xs.toList →
    CallArr P f xs w fun X w' => ∃ γ', Post γ h w γ' h' w' ∧ RV γ' r X := by
  intro args h r h' he γ w xs s hx
  unfold pureCall at he
  obtain ⟨vs, hvs, he⟩ := bnd he
  obtain ⟨p, hp, e⟩ := mp he
  obtain ⟨k, r1, h1, hev, hg⟩ := hF vs p hp
  have hxs : RVs (frozenG w) vs xs.toList := by
    obtain ⟨l1, l2⟩ := mapM_get hvs
    refine ⟨by have := hx.1; omega, fun i v x h3 h4 => ?_⟩
    obtain ⟨v0, h5, h6⟩ := l2 i v h3
    exact freeze_rel s 10 v0 v x h6 (hx.2 i v0 x h5 h4)
  have hsound := evF_sound hP hov k f vs Heap.empty r1 h1 hev (frozenG w) w xs (frozen_sim w) hxs
  have fin : ∀ X w', (∃ γ', Post (frozenG w) Heap.empty w γ' h1 w' ∧ RV γ' r1 X) → ∃ γ', Post γ h w γ' h' w' ∧ RV γ' r X := by
    rintro X w' ⟨γ1, hp1, hr1⟩
    obtain ⟨γ', g1, g2⟩ := gift_rel s hp1 hr1 hg
    rw [e] at g1 g2
    exact ⟨γ', g1, g2⟩
  rcases hsound with ⟨X, w', q1, q2⟩ | ⟨q1, q2⟩
  · exact .inl ⟨X, w', q1, fin X w' q2⟩
  · refine .inr ⟨q1, fun cs => ?_⟩
    obtain ⟨v, w', fr, hR, hst⟩ := q2 cs
    exact ⟨v, w', fr, fin v w' hR, hst⟩

/-- One more function answered so. -/
def Ov.with (ov : Ov) (f : FuncId) (F : Pure) : Ov := fun g => match Nat.beq g f with | true => some (pureCall F) | false => ov g
theorem Ov.with_ok (hP : ProgOk P) {ov : Ov} (hov : OvOk P ov) {f : FuncId} {F : Pure} (hF : PureOk P ov f F) : OvOk P (ov.with f F) := by
  intro g G0 hg
  unfold Ov.with at hg
  split at hg
  · rename_i e
    rw [beq_eq, decide_eq_true_iff] at e
    subst e
    cases hg
    exact pure_sound hP hov hF
  · exact hov g G0 hg
end
end
end Go.Ev

namespace Go.Ev
noncomputable section
open Go.RowKit
set_option linter.unusedSimpArgs false
set_option linter.unusedVariables false

theorem progOk {P : Program} (h1 : P.follows .mixedOrders = true) (h2 : P.funcs.all (fun fn => fn.body.isNone || fn.name != "runtime.NumGoroutine") = true) : ProgOk P := by
  refine ⟨h1, fun f fn hf hb e => ?_⟩
  have hm : fn ∈ P.funcs := Array.mem_of_getElem? hf
  have := (Array.all_eq_true_iff_forall_mem.1 h2) fn hm
  rw [e] at this
  simp at this
  rw [this] at hb
  cases hb

/-- A law, by the evaluator. -/
theorem law_calls {P : Program} (hP : ProgOk P) {ov : Ov} (hov : OvOk P ov) {f : FuncId} {fn : Func} (hfn : P.funcs[f]? = some fn) (hb : fn.body.isSome) {k : Nat} {vs : List LV} {h1 : Heap}
    (hev : evF P ov k f vs Heap.empty = some (.bool true, h1)) {W : World} {xs : Array Value} (hx : RVs (frozenG W) vs xs.toList) :
    Calls P f xs W fun e w' => e = .returned (.bool true) ∧ Below W.heap.size W w' := by
  have hs := evF_sound hP hov k f vs Heap.empty _ h1 hev (frozenG W) W xs (frozen_sim W) hx
  have hR : Ret P f xs W fun X w' => ∃ γ', Post (frozenG W) Heap.empty W γ' h1 w' ∧ RV γ' (.bool true) X := by
    rcases hs with ⟨X, w', q1, _⟩ | ⟨_, q⟩
    · exfalso
      have hname := hP.names f fn hfn hb
      have : (callFunc f xs).run P W = .ok (.enter f xs) W := by
        unfold callFunc
        simp only [Sem.run_bind, run_program, Result.andThen_ok, hfn]
        rw [if_neg (by simpa using hname)]
        cases hbb : fn.body with
        | none => rw [hbb] at hb; cases hb
        | some c => simp [hbb]
      rw [this] at q1
      cases q1
    · exact q
  intro cs
  obtain ⟨v, w', fr, ⟨γ', hp, hv⟩, hst, hf, hl⟩ := hR cs
  cases hv
  exact ⟨.returned (.bool true), w', fr, ⟨rfl, ⟨hp.os, hp.tape, hp.output, hp.size, fun r hr => hp.keep r hr fun b g l k => by cases k⟩⟩, hst, hf, hl⟩
end
end Go.Ev

namespace Go.Ev
noncomputable section
set_option linter.unusedSimpArgs false
set_option linter.unusedVariables false

/-! ## Walking by steps: temporaries are opaque, what is known of them stands in facts -/
theorem get_set (tm : Tmps) (a b : Nat) (v : LV) : Tmps.get (T.set tm a v) b = if a = b then v else Tmps.get tm b := by
  unfold Tmps.get
  by_cases e : a = b
  · subst e; rw [T.get_set_same, if_pos rfl]; rfl
  · rw [T.get_set_ne _ _ e, if_neg e]
theorem get_nil (b : Nat) : Tmps.get .nil b = LV.undef := by simp [Tmps.get, T.get_nil]

section
variable {P : Program} {ov : Ov} {call : CallF} {yld : Nat → List LV → Heap → Option (LV × Heap)} {n : Nat} {ops : Array Oper} {tm tm1 : Tmps} {h h1 : Heap} {o : Oper} {rest : List Oper} {v : LV}

theorem ops_nil : evOps P call yld n ops [] tm h = some (tm, h) := rfl
theorem ops_step {r : Option (Tmps × Heap)} (hw : wantedE ops tm o = true) (he : evOp P call yld tm o h = some (v, h1)) (hp : putE n tm o.dst v = some tm1) (k : evOps P call yld n ops rest tm1 h1 = r) : evOps P call yld n ops (o :: rest) tm h = r := by
  unfold evOps
  rw [hw, he]
  simp only [Option.bind_some, hp]
  exact k
theorem ops_skip {r : Option (Tmps × Heap)} (hw : wantedE ops tm o = false) (hp : putE n tm o.dst LV.undef = some tm1) (k : evOps P call yld n ops rest tm1 h = r) : evOps P call yld n ops (o :: rest) tm h = r := by
  unfold evOps
  rw [hw]
  simp only [Option.bind_some, hp]
  exact k
/-- With a place to put it. -/
theorem ops_put {r : Option (Tmps × Heap)} {d : Nat} {op : Op} {t : TypeId} {p : String} {a : Array Edge} (hd : Nat.blt d n = true) (he : evOp P call yld tm ⟨some d, op, t, p, a, none⟩ h = some (v, h1)) (k : evOps P call yld n ops rest (T.set tm d v) h1 = r) :
    evOps P call yld n ops (⟨some d, op, t, p, a, none⟩ :: rest) tm h = r :=
  ops_step rfl he (by simp only [putE, hd]) k
theorem ops_eff {r : Option (Tmps × Heap)} {op : Op} {t : TypeId} {p : String} {a : Array Edge} (he : evOp P call yld tm ⟨none, op, t, p, a, none⟩ h = some (v, h1)) (k : evOps P call yld n ops rest tm h1 = r) :
    evOps P call yld n ops (⟨none, op, t, p, a, none⟩ :: rest) tm h = r :=
  ops_step rfl he rfl k
theorem wanted_guard {d : Option Tmp} {op : Op} {t : TypeId} {p : String} {a : Array Edge} {j : Nat} {w b : Bool} {x : Tmp} (hj : (ops[j]?).bind (·.dst) = some x) (hx : tm.get x = .bool b) : wantedE ops tm ⟨d, op, t, p, a, some (j, w)⟩ = (b == w) := by
  unfold wantedE
  simp only [hj, hx]
theorem ops_yes {r : Option (Tmps × Heap)} {d : Nat} {op : Op} {t : TypeId} {p : String} {a : Array Edge} {j : Nat} {w : Bool} {x : Tmp} (hj : (ops[j]?).bind (·.dst) = some x) (hx : tm.get x = .bool w) (hd : Nat.blt d n = true)
    (he : evOp P call yld tm ⟨some d, op, t, p, a, some (j, w)⟩ h = some (v, h1)) (k : evOps P call yld n ops rest (T.set tm d v) h1 = r) : evOps P call yld n ops (⟨some d, op, t, p, a, some (j, w)⟩ :: rest) tm h = r :=
  ops_step ((wanted_guard hj hx).trans (by cases w <;> rfl)) he (by simp only [putE, hd]) k
theorem ops_no {r : Option (Tmps × Heap)} {d : Nat} {op : Op} {t : TypeId} {p : String} {a : Array Edge} {j : Nat} {w : Bool} {x : Tmp} (hj : (ops[j]?).bind (·.dst) = some x) (hx : tm.get x = .bool (!w)) (hd : Nat.blt d n = true)
    (k : evOps P call yld n ops rest (T.set tm d LV.undef) h = r) : evOps P call yld n ops (⟨some d, op, t, p, a, some (j, w)⟩ :: rest) tm h = r :=
  ops_skip ((wanted_guard hj hx).trans (by cases w <;> rfl)) (by simp only [putE, hd]) k

/-! ### code, with as much fuel as is wanted -/
def Evs (P : Program) (ov : Ov) (n : Nat) (c : Code) (tm : Tmps) (h : Heap) (r : LExit × Tmps × Heap) : Prop := ∃ K, ∀ k, K ≤ k → ev P ov k n c tm h = some r
theorem Evs.step {c : Code} {r : LExit × Tmps × Heap} (hs : ∃ K, ∀ k, K ≤ k → stepE P ov (ev P ov k) n c tm h = some r) : Evs P ov n c tm h r := by
  obtain ⟨K, hK⟩ := hs
  refine ⟨K + 1, fun k hk => ?_⟩
  obtain ⟨k, rfl⟩ : ∃ k', k = k' + 1 := ⟨k - 1, by omega⟩
  exact hK k (by omega)
theorem Evs.skip : Evs P ov n .skip tm h (.normal, tm, h) := .step ⟨0, fun _ _ => rfl⟩
theorem Evs.label {l} : Evs P ov n (.label l) tm h (.normal, tm, h) := .step ⟨0, fun _ _ => rfl⟩
theorem Evs.ret : Evs P ov n .ret tm h (.ret, tm, h) := .step ⟨0, fun _ _ => rfl⟩
theorem Evs.exit {id} : Evs P ov n (.exit id) tm h (.exit id, tm, h) := .step ⟨0, fun _ _ => rfl⟩
theorem Evs.scope {c : Code} {r} (hc : Evs P ov n c tm h r) : Evs P ov n (.scope c) tm h r := .step hc
/-- A region, whatever the deeper calls are. -/
theorem Evs.region {id : Nat} (he : ∀ run, evOps P (callE P ov run) (yieldE run) n ops ops.toList tm h = some (tm1, h1)) : Evs P ov n (.region id ops false) tm h (.normal, tm1, h1) :=
  .step ⟨0, fun k _ => by simp only [stepE, he, Option.map_some]⟩
theorem Evs.seq {a b : Code} {r} (ha : Evs P ov n a tm h (.normal, tm1, h1)) (hb : Evs P ov n b tm1 h1 r) : Evs P ov n (.seq a b) tm h r := by
  obtain ⟨K, hK⟩ := ha
  obtain ⟨K', hK'⟩ := hb
  refine .step ⟨max K K', fun k hk => ?_⟩
  simp only [stepE, hK k (by omega), Option.bind_some]
  exact hK' k (by omega)
theorem Evs.seq_out {a b : Code} {e : LExit} (ha : Evs P ov n a tm h (e, tm1, h1)) (he : e ≠ .normal) : Evs P ov n (.seq a b) tm h (e, tm1, h1) := by
  obtain ⟨K, hK⟩ := ha
  refine .step ⟨K, fun k hk => ?_⟩
  simp only [stepE, hK k hk, Option.bind_some]
theorem Evs.cond_true {x : Operand} {a b : Code} {r} (hx : val tm x = some (.bool true)) (ha : Evs P ov n a tm h r) : Evs P ov n (.cond x a b) tm h r := by
  obtain ⟨K, hK⟩ := ha
  refine .step ⟨K, fun k hk => ?_⟩
  simp only [stepE, hx, Option.bind_some]
  exact hK k hk
theorem Evs.cond_false {x : Operand} {a b : Code} {r} (hx : val tm x = some (.bool false)) (hb : Evs P ov n b tm h r) : Evs P ov n (.cond x a b) tm h r := by
  obtain ⟨K, hK⟩ := hb
  refine .step ⟨K, fun k hk => ?_⟩
  simp only [stepE, hx, Option.bind_some]
  exact hK k hk
theorem Evs.block {id : Nat} {a : Code} (ha : Evs P ov n a tm h (.normal, tm1, h1)) : Evs P ov n (.block id a) tm h (.normal, tm1, h1) := by
  obtain ⟨K, hK⟩ := ha
  exact .step ⟨K, fun k hk => by simp only [stepE, hK k hk, Option.map_some]⟩
theorem Evs.block_exit {id : Nat} {a : Code} (ha : Evs P ov n a tm h (.exit id, tm1, h1)) : Evs P ov n (.block id a) tm h (.normal, tm1, h1) := by
  obtain ⟨K, hK⟩ := ha
  refine .step ⟨K, fun k hk => ?_⟩
  have : Nat.beq id id = true := by rw [beq_eq]; simp
  simp only [stepE, hK k hk, Option.map_some, this]
theorem Evs.block_out {id i : Nat} {a : Code} (ha : Evs P ov n a tm h (.exit i, tm1, h1)) (hi : Nat.beq i id = false) : Evs P ov n (.block id a) tm h (.exit i, tm1, h1) := by
  obtain ⟨K, hK⟩ := ha
  exact .step ⟨K, fun k hk => by simp only [stepE, hK k hk, Option.map_some, hi]⟩
theorem Evs.block_ret {id : Nat} {a : Code} (ha : Evs P ov n a tm h (.ret, tm1, h1)) : Evs P ov n (.block id a) tm h (.ret, tm1, h1) := by
  obtain ⟨K, hK⟩ := ha
  exact .step ⟨K, fun k hk => by simp only [stepE, hK k hk, Option.map_some]⟩
theorem Evs.loop {a : Code} {r} (ha : Evs P ov n a tm h (.normal, tm1, h1)) (hb : Evs P ov n (.loop a) tm1 h1 r) : Evs P ov n (.loop a) tm h r := by
  obtain ⟨K, hK⟩ := ha
  obtain ⟨K', hK'⟩ := hb
  refine .step ⟨max K K', fun k hk => ?_⟩
  simp only [stepE, hK k (by omega), Option.bind_some]
  exact hK' k (by omega)
theorem Evs.loop_out {a : Code} {e : LExit} (ha : Evs P ov n a tm h (e, tm1, h1)) (he : e ≠ .normal) : Evs P ov n (.loop a) tm h (e, tm1, h1) := by
  obtain ⟨K, hK⟩ := ha
  refine .step ⟨K, fun k hk => ?_⟩
  simp only [stepE, hK k hk, Option.bind_some]

def oneOf : List LV → LV
  | [v] => v
  | vs => .tuple vs
/-- A call. -/
def Evc (P : Program) (ov : Ov) (f : FuncId) (args : List LV) (h : Heap) (r : LV × Heap) : Prop := ∃ K, ∀ k, K ≤ k → evF P ov k f args h = some r
theorem Evc.body {f : FuncId} {fn : Func} {c : Code} {args : List LV} {e : LExit} {vs : List LV} {r : LV} (hov : ov f = none) (hf : P.funcs[f]? = some fn) (hb : fn.body = some c) (hn : Nat.ble args.length fn.ntmps = true)
    (hc : Evs P ov fn.ntmps c (ofArgs args 0 .nil) h (e, tm1, h1)) (he : e = .normal ∨ e = .ret) (hr : resultsE P tm1 h1 fn.results.toList = some vs) (hv : oneOf vs = r) : Evc P ov f args h (r, h1) := by
  obtain ⟨K, hK⟩ := hc
  refine ⟨K, fun k hk => ?_⟩
  unfold evF callE
  simp only [hov, hf, hb, hn, hK k hk, Option.bind_some]
  subst hv
  rcases he with rfl | rfl <;> simp only [hr, Option.map_some] <;> (match vs with | [] => rfl | [_] => rfl | _ :: _ :: _ => rfl)
theorem pureOk_run {f : FuncId} {F : Pure} (hF : ∀ vs p, F vs = some p → ∃ k, ((evF P ov k f vs Heap.empty).bind fun x => giftE x.2 x.1) = some p) : PureOk P ov f F := by
  intro vs p hp
  obtain ⟨k, hk⟩ := hF vs p hp
  obtain ⟨⟨r, h1⟩, h2, h3⟩ := bnd hk
  exact ⟨k, r, h1, h2, h3⟩
theorem pureOk_of {f : FuncId} {F : Pure} (hF : ∀ vs p, F vs = some p → ∃ r h1, Evc P ov f vs Heap.empty (r, h1) ∧ giftE h1 r = some p) : PureOk P ov f F := by
  intro vs p hp
  obtain ⟨r, h1, ⟨K, hK⟩, hg⟩ := hF vs p hp
  exact ⟨K, r, h1, hK K (Nat.le_refl _), hg⟩
end
/-! ### the same, from behind -/
structure OpsP (P : Program) (ov : Ov) (n : Nat) (ops : Array Oper) (os : List Oper) (tm : Tmps) (h : Heap) (Q : Tmps → Heap → Prop) : Prop where
  out : ∃ tm1 h1, (∀ run, evOps P (callE P ov run) (yieldE run) n ops os tm h = some (tm1, h1)) ∧ Q tm1 h1
structure EvP (P : Program) (ov : Ov) (n : Nat) (c : Code) (tm : Tmps) (h : Heap) (Q : LExit → Tmps → Heap → Prop) : Prop where
  out : ∃ e tm1 h1, Evs P ov n c tm h (e, tm1, h1) ∧ Q e tm1 h1
section
variable {P : Program} {ov : Ov} {n : Nat} {ops : Array Oper} {tm tm1 : Tmps} {h h1 : Heap} {rest : List Oper} {v : LV} {Q : Tmps → Heap → Prop} {R : LExit → Tmps → Heap → Prop}
theorem OpsP.nil (hq : Q tm h) : OpsP P ov n ops [] tm h Q := ⟨tm, h, fun _ => rfl, hq⟩
theorem OpsP.put {d : Nat} {op : Op} {t : TypeId} {p : String} {a : Array Edge} (hd : Nat.blt d n = true) (he : ∀ run, evOp P (callE P ov run) (yieldE run) tm ⟨some d, op, t, p, a, none⟩ h = some (v, h1)) (k : OpsP P ov n ops rest (T.set tm d v) h1 Q) :
    OpsP P ov n ops (⟨some d, op, t, p, a, none⟩ :: rest) tm h Q := by
  obtain ⟨tm2, h2, k1, k2⟩ := k
  exact ⟨tm2, h2, fun run => ops_put hd (he run) (k1 run), k2⟩
theorem OpsP.eff {op : Op} {t : TypeId} {p : String} {a : Array Edge} (he : ∀ run, evOp P (callE P ov run) (yieldE run) tm ⟨none, op, t, p, a, none⟩ h = some (v, h1)) (k : OpsP P ov n ops rest tm h1 Q) :
    OpsP P ov n ops (⟨none, op, t, p, a, none⟩ :: rest) tm h Q := by
  obtain ⟨tm2, h2, k1, k2⟩ := k
  exact ⟨tm2, h2, fun run => ops_eff (he run) (k1 run), k2⟩
theorem OpsP.yes {d : Nat} {op : Op} {t : TypeId} {p : String} {a : Array Edge} {j : Nat} {w : Bool} {x : Tmp} (hj : (ops[j]?).bind (·.dst) = some x) (hx : tm.get x = .bool w) (hd : Nat.blt d n = true)
    (he : ∀ run, evOp P (callE P ov run) (yieldE run) tm ⟨some d, op, t, p, a, some (j, w)⟩ h = some (v, h1)) (k : OpsP P ov n ops rest (T.set tm d v) h1 Q) : OpsP P ov n ops (⟨some d, op, t, p, a, some (j, w)⟩ :: rest) tm h Q := by
  obtain ⟨tm2, h2, k1, k2⟩ := k
  exact ⟨tm2, h2, fun run => ops_yes hj hx hd (he run) (k1 run), k2⟩
theorem OpsP.no {d : Nat} {op : Op} {t : TypeId} {p : String} {a : Array Edge} {j : Nat} {w : Bool} {x : Tmp} (hj : (ops[j]?).bind (·.dst) = some x) (hx : tm.get x = .bool (!w)) (hd : Nat.blt d n = true)
    (k : OpsP P ov n ops rest (T.set tm d LV.undef) h Q) : OpsP P ov n ops (⟨some d, op, t, p, a, some (j, w)⟩ :: rest) tm h Q := by
  obtain ⟨tm2, h2, k1, k2⟩ := k
  exact ⟨tm2, h2, fun run => ops_no hj hx hd (k1 run), k2⟩

/-- An operation that has a guard, when the guard's value is known. -/
structure GuardP (P : Program) (ov : Ov) (n : Nat) (ops : Array Oper) (b : Bool) (d : Nat) (o : Oper) (rest : List Oper) (tm : Tmps) (h : Heap) (Q : Tmps → Heap → Prop) : Prop where
  out : match b with
  | true => ∃ v h1, (∀ run, evOp P (callE P ov run) (yieldE run) tm o h = some (v, h1)) ∧ OpsP P ov n ops rest (T.set tm d v) h1 Q
  | false => OpsP P ov n ops rest (T.set tm d LV.undef) h Q
theorem GuardP.yes {d : Nat} {o : Oper} (he : ∀ run, evOp P (callE P ov run) (yieldE run) tm o h = some (v, h1)) (k : OpsP P ov n ops rest (T.set tm d v) h1 Q) : GuardP P ov n ops true d o rest tm h Q := ⟨⟨v, h1, he, k⟩⟩
theorem GuardP.no {d : Nat} {o : Oper} (k : OpsP P ov n ops rest (T.set tm d LV.undef) h Q) : GuardP P ov n ops false d o rest tm h Q := ⟨k⟩
theorem OpsP.guard {d : Nat} {op : Op} {t : TypeId} {p : String} {a : Array Edge} {j : Nat} {w b : Bool} {x : Tmp} (hj : (ops[j]?).bind (·.dst) = some x) (hx : tm.get x = .bool b) (hd : Nat.blt d n = true)
    (k : GuardP P ov n ops (b == w) d ⟨some d, op, t, p, a, some (j, w)⟩ rest tm h Q) : OpsP P ov n ops (⟨some d, op, t, p, a, some (j, w)⟩ :: rest) tm h Q := by
  cases hb : (b == w) with
  | true =>
    rw [hb] at k
    have : b = w := by simpa using hb
    subst this
    obtain ⟨v, h1, k1, k2⟩ := k.out
    exact .yes hj hx hd k1 k2
  | false =>
    rw [hb] at k
    have : b = !w := by cases b <;> cases w <;> simp_all
    subst this
    exact .no hj hx hd k.out
structure CondP (c : Bool) (A B : Prop) : Prop where
  out : match c with | true => A | false => B
theorem CondP.t {A B : Prop} (h : A) : CondP true A B := ⟨h⟩
theorem CondP.f {A B : Prop} (h : B) : CondP false A B := ⟨h⟩
theorem CondP.of {c : Bool} {A B : Prop} (ht : c = true → A) (hf : c = false → B) : CondP c A B := by cases c <;> first | exact ⟨ht rfl⟩ | exact ⟨hf rfl⟩
theorem EvP.region {id : Nat} (he : OpsP P ov n ops ops.toList tm h (R .normal)) : EvP P ov n (.region id ops false) tm h R := by
  obtain ⟨tm1, h1, k1, k2⟩ := he
  exact ⟨_, _, _, .region k1, k2⟩
theorem EvP.seq {a b : Code} (ha : EvP P ov n a tm h fun e tm1 h1 => match e with | .normal => EvP P ov n b tm1 h1 R | e => R e tm1 h1) : EvP P ov n (.seq a b) tm h R := by
  obtain ⟨e, tm1, h1, k1, k2⟩ := ha
  cases e with
  | normal => obtain ⟨e2, tm2, h2, k3, k4⟩ := k2; exact ⟨_, _, _, k1.seq k3, k4⟩
  | exit i => exact ⟨_, _, _, k1.seq_out (by simp), k2⟩
  | ret => exact ⟨_, _, _, k1.seq_out (by simp), k2⟩
theorem EvP.skip (hr : R .normal tm h) : EvP P ov n .skip tm h R := ⟨_, _, _, .skip, hr⟩
theorem EvP.label {l} (hr : R .normal tm h) : EvP P ov n (.label l) tm h R := ⟨_, _, _, .label, hr⟩
theorem EvP.ret (hr : R .ret tm h) : EvP P ov n .ret tm h R := ⟨_, _, _, .ret, hr⟩
theorem EvP.exit {id} (hr : R (.exit id) tm h) : EvP P ov n (.exit id) tm h R := ⟨_, _, _, .exit, hr⟩
theorem EvP.scope {c : Code} (hc : EvP P ov n c tm h R) : EvP P ov n (.scope c) tm h R := by
  obtain ⟨_, _, _, k1, k2⟩ := hc
  exact ⟨_, _, _, .scope k1, k2⟩
theorem EvP.cond {x : Operand} {a b : Code} {c : Bool} (hx : val tm x = some (.bool c)) (ht : c = true → EvP P ov n a tm h R) (hf : c = false → EvP P ov n b tm h R) : EvP P ov n (.cond x a b) tm h R := by
  cases c with
  | true => obtain ⟨_, _, _, k1, k2⟩ := ht rfl; exact ⟨_, _, _, .cond_true hx k1, k2⟩
  | false => obtain ⟨_, _, _, k1, k2⟩ := hf rfl; exact ⟨_, _, _, .cond_false hx k1, k2⟩
theorem EvP.condB {x : Operand} {a b : Code} {c : Bool} (hx : val tm x = some (.bool c)) (k : CondP c (EvP P ov n a tm h R) (EvP P ov n b tm h R)) : EvP P ov n (.cond x a b) tm h R := by
  cases c with
  | true => exact .cond hx (fun _ => k.out) (by intro k; cases k)
  | false => exact .cond hx (by intro k; cases k) (fun _ => k.out)
theorem EvP.cond_t {x : Operand} {a b : Code} (hx : val tm x = some (.bool true)) (ht : EvP P ov n a tm h R) : EvP P ov n (.cond x a b) tm h R := .cond hx (fun _ => ht) (by intro k; cases k)
theorem EvP.cond_f {x : Operand} {a b : Code} (hx : val tm x = some (.bool false)) (hf : EvP P ov n b tm h R) : EvP P ov n (.cond x a b) tm h R := .cond hx (by intro k; cases k) (fun _ => hf)
theorem EvP.block {id : Nat} {a : Code} (ha : EvP P ov n a tm h fun e tm1 h1 => match e with | .exit i => (match Nat.beq i id with | true => R .normal tm1 h1 | false => R (.exit i) tm1 h1) | e => R e tm1 h1) : EvP P ov n (.block id a) tm h R := by
  obtain ⟨e, tm1, h1, k1, k2⟩ := ha
  cases e with
  | normal => exact ⟨_, _, _, .block k1, k2⟩
  | ret => exact ⟨_, _, _, .block_ret k1, k2⟩
  | exit i =>
    simp only at k2
    cases hb : Nat.beq i id with
    | true =>
      rw [hb] at k2
      rw [beq_eq, decide_eq_true_iff] at hb
      subst hb
      exact ⟨_, _, _, .block_exit k1, k2⟩
    | false => rw [hb] at k2; exact ⟨_, _, _, .block_out k1 hb, k2⟩
/-- A loop: what holds at its head, and a number that falls. -/
theorem EvP.loop {a : Code} (I : Nat → Tmps → Heap → Prop) (m : Nat) (hI : I m tm h) (hs : ∀ m tm h, I m tm h → EvP P ov n a tm h fun e tm1 h1 => match e with | .normal => ∃ m1, m1 < m ∧ I m1 tm1 h1 | e => R e tm1 h1) : EvP P ov n (.loop a) tm h R := by
  induction m using Nat.strongRecOn generalizing tm h with
  | ind m ih =>
    obtain ⟨e, tm1, h1, k1, k2⟩ := hs m tm h hI
    cases e with
    | normal =>
      obtain ⟨m1, hm, hI1⟩ := k2
      obtain ⟨e2, tm2, h2, k3, k4⟩ := ih m1 hm hI1
      exact ⟨_, _, _, k1.loop k3, k4⟩
    | exit i => exact ⟨_, _, _, k1.loop_out (by simp), k2⟩
    | ret => exact ⟨_, _, _, k1.loop_out (by simp), k2⟩
theorem EvP.mono {c : Code} {R' : LExit → Tmps → Heap → Prop} (hc : EvP P ov n c tm h R) (hr : ∀ e tm h, R e tm h → R' e tm h) : EvP P ov n c tm h R' := by
  obtain ⟨_, _, _, k1, k2⟩ := hc
  exact ⟨_, _, _, k1, hr _ _ _ k2⟩
/-- A function's body: its answer. -/
theorem Evc.of {f : FuncId} {fn : Func} {c : Code} {args : List LV} {S : LV → Heap → Prop} (hov : ov f = none) (hf : P.funcs[f]? = some fn) (hb : fn.body = some c) (hn : Nat.ble args.length fn.ntmps = true)
    (hc : EvP P ov fn.ntmps c (ofArgs args 0 .nil) h fun e tm1 h1 => match e with | .exit _ => False | _ => ∃ vs, resultsE P tm1 h1 fn.results.toList = some vs ∧ S (oneOf vs) h1) : ∃ r h1, Evc P ov f args h (r, h1) ∧ S r h1 := by
  obtain ⟨e, tm1, h1, k1, k2⟩ := hc
  cases e with
  | exit i => exact k2.elim
  | normal => obtain ⟨vs, k3, k4⟩ := k2; exact ⟨_, _, .body hov hf hb hn k1 (.inl rfl) k3 rfl, k4⟩
  | ret => obtain ⟨vs, k3, k4⟩ := k2; exact ⟨_, _, .body hov hf hb hn k1 (.inr rfl) k3 rfl, k4⟩
end

theorem wrap_nat (k : IntKind) (a : Nat) (h : a < half k) : wrap k (.ofNat a) = .ofNat a := by
  have hp : a < pow2 k := by cases k <;> simp only [half, pow2] at * <;> omega
  simp only [wrap, unwrapU, Nat.mod_eq_of_lt hp, blt_eq]
  cases k.signed <;> simp [h]
theorem wrap_u (k : IntKind) (hs : k.signed = false) (a : Nat) (h : a < pow2 k) : wrap k (.ofNat a) = .ofNat a := by
  simp only [wrap, unwrapU, Nat.mod_eq_of_lt h, hs]
theorem nat_sub {a b : Nat} (h : b ≤ a) : Int.ofNat a - (b : Int) = Int.ofNat (a - b) := by simp; omega
theorem nat_add {a b : Nat} : Int.ofNat a + (b : Int) = Int.ofNat (a + b) := rfl

/-! ### memory -/
theorem hget_new (h : Heap) (o : HObj) (b : Nat) : (h.new o).2.get b = if h.next = b then some o else h.get b := by
  by_cases e : h.next = b
  · subst e; rw [if_pos rfl]; simp
  · rw [if_neg e, Heap.get_new_ne h o e]
theorem hnext_new (h : Heap) (o : HObj) : (h.new o).2.next = h.next + 1 := rfl
theorem hget_set (h : Heap) (b : Nat) (o : HObj) (c : Nat) : (h.set b o).get c = if b = c then some o else h.get c := by
  unfold Heap.set Heap.get
  by_cases e : b = c
  · subst e; rw [if_pos rfl, T.get_set_same]
  · rw [if_neg e, T.get_set_ne _ _ e]
theorem hnext_set (h : Heap) (b : Nat) (o : HObj) : (h.set b o).next = h.next := rfl
theorem hget_empty (b : Nat) : Heap.empty.get b = none := by simp [Heap.get, Heap.empty, T.get_nil]
theorem hnext_empty : Heap.empty.next = 0 := rfl
theorem new_fst (h : Heap) (o : HObj) : (h.new o).1 = h.next := rfl
theorem putNew_eq (h : Heap) (o : HObj) (mk : Nat → LV) : putNew h (o, mk) = (mk h.next, (h.new o).2) := rfl
end
end Go.Ev

namespace Go.Ev
noncomputable section
set_option linter.unusedSimpArgs false
set_option linter.unusedVariables false
section
variable {P : Program} {ov : Ov} {n : Nat} {ops : Array Oper} {tm tm1 : Tmps} {h h1 : Heap} {v : LV} {R : LExit → Tmps → Heap → Prop}

/-! ## Regions that draw their order -/
structure DrP (P : Program) (ov : Ov) (n : Nat) (ops : Array Oper) (ord : List Nat) (tm : Tmps) (h : Heap) (Q : List Rec → Tmps → Heap → Prop) : Prop where
  out : ∃ rs tm1 h1, (∀ run, drawRun P (callE P ov run) (yieldE run) n ops ord tm h = some (rs, tm1, h1)) ∧ Q rs tm1 h1
theorem DrP.nil {Q : List Rec → Tmps → Heap → Prop} (hq : Q [] tm h) : DrP P ov n ops [] tm h Q := ⟨[], tm, h, fun _ => rfl, hq⟩
theorem DrP.put {Q : List Rec → Tmps → Heap → Prop} {i : Nat} {ord : List Nat} {d : Nat} {op : Op} {t : TypeId} {p : String} {a : Array Edge} (ho : ops[i]? = some ⟨some d, op, t, p, a, none⟩) (hd : Nat.blt d n = true)
    (he : ∀ run, evOp P (callE P ov run) (yieldE run) tm ⟨some d, op, t, p, a, none⟩ h = some (v, h1)) (k : DrP P ov n ops ord (T.set tm d v) h1 fun rs => Q (⟨i, tm, h, v, true⟩ :: rs)) : DrP P ov n ops (i :: ord) tm h Q := by
  obtain ⟨rs, tm2, h2, k1, k2⟩ := k
  refine ⟨_, tm2, h2, fun run => ?_, k2⟩
  unfold drawRun
  have hw : wantedE ops tm ⟨some d, op, t, p, a, none⟩ = true := rfl
  simp only [ho, hw, he run, Option.bind_some, putE, hd, k1 run, Option.map_some]
theorem DrP.eff {Q : List Rec → Tmps → Heap → Prop} {i : Nat} {ord : List Nat} {op : Op} {t : TypeId} {p : String} {a : Array Edge} (ho : ops[i]? = some ⟨none, op, t, p, a, none⟩)
    (he : ∀ run, evOp P (callE P ov run) (yieldE run) tm ⟨none, op, t, p, a, none⟩ h = some (v, h1)) (k : DrP P ov n ops ord tm h1 fun rs => Q (⟨i, tm, h, v, true⟩ :: rs)) : DrP P ov n ops (i :: ord) tm h Q := by
  obtain ⟨rs, tm2, h2, k1, k2⟩ := k
  refine ⟨_, tm2, h2, fun run => ?_, k2⟩
  unfold drawRun
  have hw : wantedE ops tm ⟨none, op, t, p, a, none⟩ = true := rfl
  simp only [ho, hw, he run, Option.bind_some, putE, k1 run, Option.map_some]
structure DGuardP (P : Program) (ov : Ov) (n : Nat) (ops : Array Oper) (b : Bool) (d : Nat) (i : Nat) (o : Oper) (ord : List Nat) (tm : Tmps) (h : Heap) (Q : List Rec → Tmps → Heap → Prop) : Prop where
  out : match b with
  | true => ∃ v h1, (∀ run, evOp P (callE P ov run) (yieldE run) tm o h = some (v, h1)) ∧ DrP P ov n ops ord (T.set tm d v) h1 fun rs => Q (⟨i, tm, h, v, true⟩ :: rs)
  | false => DrP P ov n ops ord (T.set tm d LV.undef) h fun rs => Q (⟨i, tm, h, LV.undef, false⟩ :: rs)
theorem DGuardP.yes {Q : List Rec → Tmps → Heap → Prop} {d i : Nat} {o : Oper} {ord : List Nat} (he : ∀ run, evOp P (callE P ov run) (yieldE run) tm o h = some (v, h1)) (k : DrP P ov n ops ord (T.set tm d v) h1 fun rs => Q (⟨i, tm, h, v, true⟩ :: rs)) :
    DGuardP P ov n ops true d i o ord tm h Q := ⟨⟨v, h1, he, k⟩⟩
theorem DGuardP.no {Q : List Rec → Tmps → Heap → Prop} {d i : Nat} {o : Oper} {ord : List Nat} (k : DrP P ov n ops ord (T.set tm d LV.undef) h fun rs => Q (⟨i, tm, h, LV.undef, false⟩ :: rs)) : DGuardP P ov n ops false d i o ord tm h Q := ⟨k⟩
theorem DrP.guard {Q : List Rec → Tmps → Heap → Prop} {i : Nat} {ord : List Nat} {d : Nat} {op : Op} {t : TypeId} {p : String} {a : Array Edge} {j : Nat} {w b : Bool} {x : Tmp} (ho : ops[i]? = some ⟨some d, op, t, p, a, some (j, w)⟩)
    (hj : (ops[j]?).bind (·.dst) = some x) (hx : tm.get x = .bool b) (hd : Nat.blt d n = true) (k : DGuardP P ov n ops (b == w) d i ⟨some d, op, t, p, a, some (j, w)⟩ ord tm h Q) : DrP P ov n ops (i :: ord) tm h Q := by
  have hw : wantedE ops tm ⟨some d, op, t, p, a, some (j, w)⟩ = (b == w) := wanted_guard hj hx
  have k := k.out
  cases hb : (b == w) with
  | true =>
    rw [hb] at k hw
    obtain ⟨v, h1, he, rs, tm2, h2, k1, k2⟩ := k
    refine ⟨_, tm2, h2, fun run => ?_, k2⟩
    unfold drawRun
    simp only [ho, hw, he run, Option.bind_some, putE, hd, k1 run, Option.map_some]
  | false =>
    rw [hb] at k hw
    obtain ⟨rs, tm2, h2, k1, k2⟩ := k
    refine ⟨_, tm2, h2, fun run => ?_, k2⟩
    unfold drawRun
    simp only [ho, hw, Option.bind_some, putE, hd, k1 run, Option.map_some]

/-- All that a drawn region asks of its text. -/
def planOk (P : Program) (ops : Array Oper) (ks : List Kind) (ms ord : List Nat) : Prop := (ops.toList.map fun o => kindOf P o.op) = ks ∧ masks ops.toList [] = ms ∧ orderOf ks ms = ord ∧ drawOk ops ks ms ord = true
theorem EvP.draw {id : Nat} {ks : List Kind} {ms ord : List Nat} (hp : planOk P ops ks ms ord)
    (k : DrP P ov n ops ord tm h fun rs tm1 h1 => (∀ run, chkAll P (callE P ov run) (yieldE run) ops ks ms h1 rs = true) ∧ R .normal tm1 h1) : EvP P ov n (.region id ops true) tm h R := by
  obtain ⟨rfl, rfl, rfl, hok⟩ := hp
  obtain ⟨rs, tm1, h1, k1, k2, k3⟩ := k
  refine ⟨.normal, tm1, h1, .step ⟨0, fun k _ => ?_⟩, k3⟩
  simp only [stepE, evDraw, hok, k1, Option.bind_some, k2, Option.map_some]
/-- No operation of the region reads memory. -/
def freeOk (ops : Array Oper) (ks : List Kind) : Bool := (List.range ops.size).all fun i => match ks.getD i .reads, ops[i]? with
  | .reads, some o => stillB o.op
  | .reads, none => false
  | _, _ => true
theorem chk_free {ks : List Kind} {ms : List Nat} {call : CallF} {yld : Nat → List LV → Heap → Option (LV × Heap)} (hf : freeOk ops ks = true) {hl : Heap} : ∀ rs : List Rec, (rs.all fun r => Nat.blt r.i ops.size) = true → chkAll P call yld ops ks ms hl rs = true
  | [], _ => rfl
  | r :: rs, hr => by
    unfold chkAll
    rw [List.all_cons, Bool.and_eq_true, blt_eq, decide_eq_true_iff] at hr
    rw [Bool.and_eq_true]
    refine ⟨?_, chk_free hf rs hr.2⟩
    have := List.all_eq_true.1 hf r.i (by simpa using hr.1)
    cases hw : r.want with
    | false => rfl
    | true =>
      cases hk : ks.getD r.i .reads with
      | reads =>
        rw [hk] at this
        simp only
        cases ho : ops[r.i]? with
        | none => rw [ho] at this; cases this
        | some o => rw [ho] at this; simp only at this; simp only [this, Bool.true_or]
      | makes => rfl
      | writes => rfl
end
end
end Go.Ev

namespace Go.Ev
noncomputable section
set_option linter.unusedSimpArgs false
set_option linter.unusedVariables false
/-! ## More fuel changes nothing -/
section
variable {P : Program} {call call' : CallF} {yld yld' : Nat → List LV → Heap → Option (LV × Heap)}
def CallLe (c c' : CallF) : Prop := ∀ f a h r, c f a h = some r → c' f a h = some r
def YldLe (c c' : Nat → List LV → Heap → Option (LV × Heap)) : Prop := ∀ f a h r, c f a h = some r → c' f a h = some r
theorem evOp_mono (hc : CallLe call call') (hy : YldLe yld yld') {tm : Tmps} {o : Oper} {h : Heap} {r : LV × Heap} (he : evOp P call yld tm o h = some r) : evOp P call' yld' tm o h = some r := by
  unfold evOp at he ⊢
  cases hop : o.op with
  | call c =>
    rw [hop] at he
    obtain ⟨args, h1, he⟩ := bnd he
    simp only [h1, Option.bind_some]
    split at he
    · exact he
    · obtain ⟨f, h2, he⟩ := bnd he
      simp only [h2, Option.bind_some]
      unfold callV at he ⊢
      split at he
      · exact hc _ _ _ _ he
      · exact hy _ _ _ _ he
      · cases he
    · cases he
  | makeFunc fn _ _ => rw [hop] at he; cases fn <;> exact he
  | _ => rw [hop] at he; exact he
theorem evOps_mono (hc : CallLe call call') (hy : YldLe yld yld') {n : Nat} {ops : Array Oper} : ∀ (os : List Oper) (tm : Tmps) (h : Heap) (r : Tmps × Heap), evOps P call yld n ops os tm h = some r → evOps P call' yld' n ops os tm h = some r
  | [], tm, h, r, he => he
  | o :: os, tm, h, r, he => by
    unfold evOps at he ⊢
    split at he
    · obtain ⟨⟨v, h1⟩, h2, he⟩ := bnd he
      obtain ⟨tm1, h3, he⟩ := bnd he
      simp only [evOp_mono hc hy h2, Option.bind_some, h3]
      exact evOps_mono hc hy os tm1 h1 r he
    · obtain ⟨tm1, h3, he⟩ := bnd he
      simp only [Option.bind_some, h3]
      exact evOps_mono hc hy os tm1 h r he
theorem drawRun_mono (hc : CallLe call call') (hy : YldLe yld yld') {n : Nat} {ops : Array Oper} : ∀ (is : List Nat) (tm : Tmps) (h : Heap) (r : List Rec × Tmps × Heap), drawRun P call yld n ops is tm h = some r → drawRun P call' yld' n ops is tm h = some r
  | [], tm, h, r, he => he
  | i :: is, tm, h, r, he => by
    unfold drawRun at he ⊢
    split at he
    · cases he
    · split at he
      · obtain ⟨⟨v, h1⟩, h2, he⟩ := bnd he
        obtain ⟨tm1, h3, he⟩ := bnd he
        obtain ⟨⟨rs', t', hh'⟩, h4, h5⟩ := mp he
        simp only [evOp_mono hc hy h2, Option.bind_some, h3, drawRun_mono hc hy is tm1 h1 _ h4, Option.map_some]
        exact congrArg some h5
      · obtain ⟨tm1, h3, he⟩ := bnd he
        obtain ⟨⟨rs', t', hh'⟩, h4, h5⟩ := mp he
        simp only [Option.bind_some, h3, drawRun_mono hc hy is tm1 h _ h4, Option.map_some]
        exact congrArg some h5
theorem sameAt_mono (hc : CallLe call call') (hy : YldLe yld yld') {o : Oper} {r : Rec} {h : Heap} (he : sameAt P call yld o r h = true) : sameAt P call' yld' o r h = true := by
  unfold sameAt at he ⊢
  cases hq : evOp P call yld r.tm o h with
  | none => rw [hq] at he; cases he
  | some x => rw [hq] at he; rw [evOp_mono hc hy hq]; exact he
theorem chkRec_mono (hc : CallLe call call') (hy : YldLe yld yld') {ks : List Kind} {ms : List Nat} {o : Oper} {r : Rec} {hl : Heap} : ∀ (rs : List Rec) (s : Bool), chkRec P call yld ks ms o r hl s rs = true → chkRec P call' yld' ks ms o r hl s rs = true
  | [], s, h => by
    unfold chkRec at h ⊢
    rw [Bool.or_eq_true] at h ⊢
    exact h.imp id (sameAt_mono hc hy)
  | w :: rs, s, h => by
    unfold chkRec at h ⊢
    cases hk : ks.getD w.i .reads with
    | reads => rw [hk] at h; exact chkRec_mono hc hy rs s h
    | makes => rw [hk] at h; exact chkRec_mono hc hy rs _ h
    | writes =>
      rw [hk] at h
      simp only [Bool.and_eq_true, Bool.or_eq_true] at h ⊢
      exact ⟨h.1.imp id (sameAt_mono hc hy), h.2.imp id (chkRec_mono hc hy rs _)⟩
theorem chkAll_mono (hc : CallLe call call') (hy : YldLe yld yld') {ops : Array Oper} {ks : List Kind} {ms : List Nat} {hl : Heap} : ∀ (rs : List Rec), chkAll P call yld ops ks ms hl rs = true → chkAll P call' yld' ops ks ms hl rs = true
  | [], h => rfl
  | r :: rs, h => by
    unfold chkAll at h ⊢
    rw [Bool.and_eq_true] at h ⊢
    refine ⟨?_, chkAll_mono hc hy rs h.2⟩
    have h1 := h.1
    cases hw : r.want with
    | false => rfl
    | true =>
      cases hk : ks.getD r.i .reads with
      | makes => rfl
      | writes => rfl
      | reads =>
        rw [hw, hk] at h1
        simp only at h1 ⊢
        cases ho : ops[r.i]? with
        | none => rw [ho] at h1; exact h1
        | some o =>
          rw [ho] at h1
          simp only [Bool.or_eq_true] at h1 ⊢
          exact h1.imp id (chkRec_mono hc hy rs true)
theorem evDraw_mono (hc : CallLe call call') (hy : YldLe yld yld') {n : Nat} {ops : Array Oper} {tm : Tmps} {h : Heap} {r : Tmps × Heap} (he : evDraw P call yld n ops tm h = some r) : evDraw P call' yld' n ops tm h = some r := by
  unfold evDraw at he ⊢
  simp only at he ⊢
  split at he
  · cases he
  · obtain ⟨⟨rs, t, h1⟩, h2, he⟩ := bnd he
    simp only [drawRun_mono hc hy _ _ _ _ h2, Option.bind_some]
    simp only at he
    split at he
    · rename_i hq
      simp only [chkAll_mono hc hy _ hq]
      exact he
    · cases he
def RunLe (r r' : Run) : Prop := ∀ n c tm h x, r n c tm h = some x → r' n c tm h = some x
theorem callE_mono {ov : Ov} {run run' : Run} (hr : RunLe run run') : CallLe (callE P ov run) (callE P ov run') := by
  intro f a h r he
  unfold callE at he ⊢
  split at he
  · exact he
  · split at he
    · split at he
      · split at he
        · obtain ⟨x, h1, he⟩ := bnd he
          simp only [hr _ _ _ _ _ h1, Option.bind_some]
          exact he
        · cases he
      · cases he
    · cases he
theorem yieldE_mono {run run' : Run} (hr : RunLe run run') : YldLe (yieldE run) (yieldE run') := by
  intro l a h r he
  unfold yieldE at he ⊢
  split at he
  · split at he
    · cases he
    · obtain ⟨tm0, h1, he⟩ := bnd he
      obtain ⟨⟨e, tm1, hh1⟩, h2, he⟩ := bnd he
      simp only [h1, Option.bind_some, hr _ _ _ _ _ h2]
      cases e with
      | normal =>
        simp only at he ⊢
        split at he
        · split at he
          · obtain ⟨x, h3, he⟩ := bnd he
            simp only [hr _ _ _ _ _ h3, Option.bind_some]
            exact he
          · cases he
        · cases he
      | exit _ => cases he
      | ret => cases he
  · cases he
theorem stepE_mono {ov : Ov} {run run' : Run} (hr : RunLe run run') : RunLe (stepE P ov run) (stepE P ov run') := by
  have hc := callE_mono (P := P) (ov := ov) hr
  have hy := yieldE_mono hr
  intro n c tm h x he
  cases c with
  | skip => exact he
  | label _ => exact he
  | ret => exact he
  | exit _ => exact he
  | goto _ => exact he
  | refuse _ => exact he
  | region id ops d =>
    cases d with
    | false =>
      obtain ⟨⟨y1, y2⟩, h1, h2⟩ := mp he
      simp only [stepE, evOps_mono hc hy _ _ _ _ h1, Option.map_some]
      exact congrArg some h2
    | true =>
      obtain ⟨⟨y1, y2⟩, h1, h2⟩ := mp he
      simp only [stepE, evDraw_mono hc hy h1, Option.map_some]
      exact congrArg some h2
  | seq a b =>
    obtain ⟨⟨e, t, h1⟩, h2, he⟩ := bnd he
    simp only [stepE, hr _ _ _ _ _ h2, Option.bind_some]
    cases e with
    | normal => exact hr _ _ _ _ _ he
    | exit _ => exact he
    | ret => exact he
  | cond y a b =>
    obtain ⟨v, h1, he⟩ := bnd he
    simp only [stepE, h1, Option.bind_some]
    split at he
    · exact hr _ _ _ _ _ he
    · exact hr _ _ _ _ _ he
    · cases he
  | block id a =>
    obtain ⟨⟨y1, y2, y3⟩, h1, h2⟩ := mp he
    simp only [stepE, hr _ _ _ _ _ h1, Option.map_some]
    exact congrArg some h2
  | loop a =>
    obtain ⟨⟨e, t, h1⟩, h2, he⟩ := bnd he
    simp only [stepE, hr _ _ _ _ _ h2, Option.bind_some]
    cases e with
    | normal => exact hr _ _ _ _ _ he
    | exit _ => exact he
    | ret => exact he
  | scope a => exact hr _ _ _ _ _ he
  | rangeFunc f ps as bo =>
    simp only [stepE] at he ⊢
    split at he
    · cases he
    · obtain ⟨v, h1, he⟩ := bnd he
      simp only [h1, Option.bind_some]
      split at he
      · obtain ⟨y, h2, he⟩ := bnd he
        simp only [hc _ _ _ _ h2, Option.bind_some]
        exact he
      · cases he
theorem ev_mono1 {ov : Ov} : ∀ k, RunLe (ev P ov k) (ev P ov (k + 1))
  | 0 => fun _ _ _ _ _ h => by cases h
  | k + 1 => stepE_mono (ev_mono1 k)
theorem ev_mono {ov : Ov} {k k' : Nat} (h : k ≤ k') : RunLe (ev P ov k) (ev P ov k') := by
  induction k' with
  | zero => obtain rfl : k = 0 := by omega
            exact fun _ _ _ _ _ h => h
  | succ k' ih =>
    by_cases e : k = k' + 1
    · subst e; exact fun _ _ _ _ _ h => h
    · exact fun n c tm h x hx => ev_mono1 k' n c tm h x (ih (by omega) n c tm h x hx)
theorem Evs.of_ev {ov : Ov} {k n : Nat} {c : Code} {tm : Tmps} {h : Heap} {r : LExit × Tmps × Heap} (he : ev P ov k n c tm h = some r) : Evs P ov n c tm h r := ⟨k, fun k' hk => ev_mono hk _ _ _ _ _ he⟩
theorem Evc.of_ev {ov : Ov} {k : Nat} {f : FuncId} {args : List LV} {h : Heap} {r : LV × Heap} (he : evF P ov k f args h = some r) : Evc P ov f args h r := ⟨k, fun k' hk => callE_mono (ev_mono hk) _ _ _ _ he⟩
end
end
end Go.Ev
