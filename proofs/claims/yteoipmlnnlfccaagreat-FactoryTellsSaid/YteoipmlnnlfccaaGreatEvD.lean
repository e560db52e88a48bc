/-
  A quick evaluator for closed runs, and that whatever it gives the certified evaluator gives; no conditions.
-/
import Derived.Test.YteoipmlnnlfccaaGreatEvA
import Derived.Test.YteoipmlnnlfccaaGreatEvB
import Derived.Test.YteoipmlnnlfccaaGreatEvC
namespace Go.Ev
noncomputable section
set_option linter.unusedSimpArgs false
set_option linter.unusedVariables false

/-! ## The quick evaluator: lists and trees by bare recursors; rows of cells in pieces of sixteen -/
section
variable {α β : Type}
def dropR (n : Nat) (l : List α) : List α := Nat.rec (motive := fun _ => List α → List α) (fun l => l) (fun _ ih l => List.rec (motive := fun _ => List α) [] (fun _ t _ => ih t) l) n l
def takeR (n : Nat) (l : List α) : List α := Nat.rec (motive := fun _ => List α → List α) (fun _ => []) (fun _ ih l => List.rec (motive := fun _ => List α) [] (fun a t _ => a :: ih t) l) n l
def appR (l m : List α) : List α := List.rec (motive := fun _ => List α) m (fun a _ ih => a :: ih) l
def tailR (l : List α) : List α := List.rec (motive := fun _ => List α) [] (fun _ t _ => t) l
def overR (new l : List α) : List α := List.rec (motive := fun _ => List α → List α) (fun l => l) (fun a _ ih l => a :: ih (tailR l)) new l
def putR (l : List α) (r : Nat) (new : List α) : List α := Nat.rec (motive := fun _ => List α → List α) (fun l => overR new l) (fun _ ih l => List.rec (motive := fun _ => List α) [] (fun a t _ => a :: ih t) l) r l
def lenR (l : List α) : Nat := List.rec (motive := fun _ => Nat) 0 (fun _ _ ih => Nat.succ ih) l
def headR (l : List α) : Option α := List.rec (motive := fun _ => Option α) none (fun a _ _ => some a) l
theorem dropR_eq : ∀ (n : Nat) (l : List α), dropR n l = l.drop n
  | 0, _ => rfl
  | _ + 1, [] => rfl
  | n + 1, _ :: l => dropR_eq n l
theorem takeR_eq : ∀ (n : Nat) (l : List α), takeR n l = l.take n
  | 0, _ => rfl
  | _ + 1, [] => rfl
  | n + 1, a :: l => congrArg (a :: ·) (takeR_eq n l)
theorem appR_eq : ∀ (l m : List α), appR l m = l ++ m
  | [], _ => rfl
  | a :: l, m => congrArg (a :: ·) (appR_eq l m)
theorem lenR_eq : ∀ (l : List α), lenR l = l.length
  | [] => rfl
  | _ :: l => congrArg (· + 1) (lenR_eq l)
theorem headR_eq : ∀ (l : List α), headR l = l.head?
  | [] => rfl
  | _ :: _ => rfl
theorem tailR_eq : ∀ (l : List α), tailR l = l.drop 1
  | [] => rfl
  | _ :: _ => rfl
theorem overR_eq : ∀ (new l : List α), overR new l = new ++ l.drop new.length
  | [], l => rfl
  | a :: new, l => by
    show a :: overR new (tailR l) = _
    rw [overR_eq new, tailR_eq, List.drop_drop]
    simp [Nat.add_comm]
theorem putR_eq : ∀ (r : Nat) (l new : List α), r ≤ l.length → putR l r new = l.take r ++ (new ++ l.drop (r + new.length))
  | 0, l, new, _ => by show overR new l = _; rw [overR_eq]; simp
  | r + 1, [], new, h => by simp at h
  | r + 1, a :: l, new, h => by
    show a :: putR l r new = _
    rw [putR_eq r l new (by simpa using h)]
    simp [Nat.add_right_comm]
end

/-- Cells in pieces of sixteen. -/
abbrev Ch := T (List LV)
def chunk (ch : Ch) (c : Nat) : List LV := Option.rec (motive := fun _ => List LV) [] (fun l => l) (T.get ch c)
def Rep (ch : Ch) (cs : List LV) : Prop := ∀ c, 16 * c < cs.length → T.get ch c = some ((cs.drop (16 * c)).take 16)
theorem chunk_eq {ch : Ch} {cs : List LV} (h : Rep ch cs) (c : Nat) (hc : 16 * c < cs.length) : chunk ch c = (cs.drop (16 * c)).take 16 := by unfold chunk; rw [h c hc]

def readC (ch : Ch) (f : Nat) : Nat → Nat → Nat → List LV :=
  Nat.rec (motive := fun _ => Nat → Nat → Nat → List LV) (fun _ _ _ => []) (fun _ ih c r n =>
    Bool.rec (motive := fun _ => List LV) (appR (dropR r (chunk ch c)) (ih (Nat.succ c) 0 (Nat.sub n (Nat.sub 16 r)))) (takeR n (dropR r (chunk ch c))) (Nat.ble n (Nat.sub 16 r))) f
theorem readC_eq {ch : Ch} {cs : List LV} (h : Rep ch cs) : ∀ (f c r n : Nat), 16 * c + r + n ≤ cs.length → r < 16 → n + r ≤ 16 * f → readC ch f c r n = (cs.drop (16 * c + r)).take n
  | 0, c, r, n, _, _, hf => by
    have : n = 0 := by omega
    subst this
    show [] = _
    simp
  | f + 1, c, r, n, hl, hr, hf => by
    show Bool.rec (motive := fun _ => List LV) (appR (dropR r (chunk ch c)) (readC ch f (c + 1) 0 (n - (16 - r)))) (takeR n (dropR r (chunk ch c))) (Nat.ble n (16 - r)) = _
    rw [appR_eq, takeR_eq, dropR_eq]
    by_cases hn : n = 0
    · subst hn
      have : Nat.ble 0 (16 - r) = true := rfl
      rw [this]
      simp
    · have hc := chunk_eq h c (by omega)
      rw [hc]
      by_cases hb : n ≤ 16 - r
      · have : Nat.ble n (16 - r) = true := by simpa using hb
        rw [this]
        simp only
        rw [List.drop_take, List.drop_drop, List.take_take, Nat.min_eq_left hb]
      · have : Nat.ble n (16 - r) = false := by
          cases hx : Nat.ble n (16 - r) with
          | false => rfl
          | true => exact absurd (by simpa using hx) hb
        rw [this]
        simp only
        rw [readC_eq h f (c + 1) 0 (n - (16 - r)) (by omega) (by omega) (by omega), List.drop_take, List.drop_drop]
        have e1 : 16 * (c + 1) + 0 = 16 * c + r + (16 - r) := by omega
        have e2 : n = (16 - r) + (n - (16 - r)) := by omega
        conv => rhs; rw [e2, List.take_add, List.drop_drop]
        rw [e1]

def appC (f : Nat) : Nat → Nat → List LV → Ch → Ch :=
  Nat.rec (motive := fun _ => Nat → Nat → List LV → Ch → Ch) (fun _ _ _ ch => ch) (fun _ ih c r new ch =>
    List.rec (motive := fun _ => Ch) ch (fun _ _ _ => ih (Nat.succ c) 0 (dropR (Nat.sub 16 r) new)
      (T.set ch c (putR (Nat.rec (motive := fun _ => List LV) [] (fun _ _ => chunk ch c) r) r (takeR (Nat.sub 16 r) new)))) new) f
theorem Rep.app1 {ch : Ch} {cs new : List LV} {c r : Nat} (h : Rep ch cs) (hl : cs.length = 16 * c + r) (hr : r + new.length ≤ 16) (h0 : r < 16) :
    Rep (T.set ch c (putR (Nat.rec (motive := fun _ => List LV) [] (fun _ _ => chunk ch c) r) r new)) (cs ++ new) := by
  intro c' hc'
  rw [List.length_append] at hc'
  by_cases e : c = c'
  · subst e
    rw [T.get_set_same]
    have hbase : (Nat.rec (motive := fun _ => List LV) [] (fun _ _ => chunk ch c) r : List LV) = cs.drop (16 * c) := by
      cases r with
      | zero => exact (List.drop_eq_nil_of_le (by omega)).symm
      | succ r =>
        show chunk ch c = _
        rw [chunk_eq h c (by omega), List.take_of_length_le (by simp; omega)]
    have hbl : (cs.drop (16 * c)).length = r := by simp; omega
    rw [hbase, putR_eq r _ new (by omega)]
    rw [List.take_of_length_le (l := cs.drop (16 * c)) (i := r) (by omega), List.drop_eq_nil_of_le (as := cs.drop (16 * c)) (i := r + new.length) (by omega), List.append_nil]
    rw [List.drop_append_of_le_length (by omega), List.take_of_length_le (by simp; omega)]
  · rw [T.get_set_ne _ _ e, h c' (by omega)]
    rw [List.drop_append_of_le_length (by omega), List.take_append_of_le_length (by simp; omega)]
theorem appC_zero (c r : Nat) (new : List LV) (ch : Ch) : appC 0 c r new ch = ch := rfl
theorem appC_nil (f c r : Nat) (ch : Ch) : appC f c r [] ch = ch := by cases f <;> rfl
theorem appC_eq : ∀ (f c r : Nat) (new cs : List LV) (ch : Ch), Rep ch cs → cs.length = 16 * c + r → r < 16 → new.length + r ≤ 16 * f → Rep (appC f c r new ch) (cs ++ new)
  | 0, c, r, new, cs, ch, h, hl, hr, hf => by
    have : new = [] := by cases new with | nil => rfl | cons _ _ => simp at hf
    subst this
    simpa [appC_zero] using h
  | f + 1, c, r, [], cs, ch, h, hl, hr, hf => by simpa [appC_nil] using h
  | f + 1, c, r, a :: new, cs, ch, h, hl, hr, hf => by
    show Rep (appC f (c + 1) 0 (dropR (16 - r) (a :: new)) (T.set ch c (putR _ r (takeR (16 - r) (a :: new))))) _
    rw [dropR_eq, takeR_eq]
    have h1 := h.app1 (new := (a :: new).take (16 - r)) hl (by simp [List.length_take]; omega) hr
    by_cases hb : (a :: new).length ≤ 16 - r
    · rw [List.drop_eq_nil_of_le hb]
      rw [List.take_of_length_le hb] at h1 ⊢
      simpa [appC_nil] using h1
    · have := appC_eq f (c + 1) 0 ((a :: new).drop (16 - r)) (cs ++ (a :: new).take (16 - r)) _ h1 (by simp only [List.length_append, List.length_take]; omega) (by omega) (by simp only [List.length_drop]; omega)
      rw [List.append_assoc, List.take_append_drop] at this
      exact this

def writeC (f : Nat) : Nat → Nat → List LV → Ch → Ch :=
  Nat.rec (motive := fun _ => Nat → Nat → List LV → Ch → Ch) (fun _ _ _ ch => ch) (fun _ ih c r new ch =>
    List.rec (motive := fun _ => Ch) ch (fun _ _ _ => ih (Nat.succ c) 0 (dropR (Nat.sub 16 r) new) (T.set ch c (putR (chunk ch c) r (takeR (Nat.sub 16 r) new)))) new) f
theorem splice_add (cs a b : List LV) (o : Nat) (h : o + (a ++ b).length ≤ cs.length) : splice cs o (a ++ b) = splice (splice cs o a) (o + a.length) b := by
  rw [List.length_append] at h
  apply List.ext_getElem?
  intro i
  rw [splice_get _ _ _ (by rw [List.length_append]; exact h), splice_get _ _ _ (by rw [splice_length _ _ _ (by omega)]; omega), splice_get _ _ _ (by omega)]
  rw [List.length_append]
  by_cases h1 : o ≤ i ∧ i < o + (a.length + b.length)
  · by_cases h2 : i < o + a.length
    · rw [if_pos h1, if_neg (by omega), if_pos (by omega), List.getElem?_append_left (by omega)]
    · rw [if_pos h1, if_pos (by omega), List.getElem?_append_right (by omega)]
      congr 1; omega
  · rw [if_neg h1, if_neg (by omega), if_neg (by omega)]
theorem Rep.write1 {ch : Ch} {cs new : List LV} {c r : Nat} (h : Rep ch cs) (hl : 16 * c + r + new.length ≤ cs.length) (hr : r + new.length ≤ 16) (h0 : r < 16) (hn : 0 < new.length) :
    Rep (T.set ch c (putR (chunk ch c) r new)) (splice cs (16 * c + r) new) := by
  intro c' hc'
  rw [splice_length _ _ _ hl] at hc'
  by_cases e : c = c'
  · subst e
    rw [T.get_set_same, chunk_eq h c hc', putR_eq r _ new (by simp; omega)]
    congr 1
    apply List.ext_getElem?
    intro i
    have hbl : ((cs.drop (16 * c)).take 16).length = min 16 (cs.length - 16 * c) := by simp
    simp only [List.getElem?_take, List.getElem?_drop]
    rw [splice_get _ _ _ hl]
    by_cases h16 : i < 16
    · rw [if_pos h16]
      by_cases h1 : i < r
      · rw [if_neg (by omega), List.getElem?_append_left (by simp; omega)]
        simp [List.getElem?_take, h1, h16]
      · rw [List.getElem?_append_right (by simp; omega)]
        have hlt : (List.take r (List.take 16 (List.drop (16 * c) cs))).length = r := by simp; omega
        rw [hlt]
        by_cases h2 : i < r + new.length
        · rw [if_pos (by omega), List.getElem?_append_left (by omega)]
          congr 1; omega
        · rw [if_neg (by omega), List.getElem?_append_right (by omega)]
          simp only [List.getElem?_drop, List.getElem?_take]
          rw [if_pos (by omega)]
          congr 1; omega
    · rw [if_neg h16]
      apply List.getElem?_eq_none
      simp; omega
  · rw [T.get_set_ne _ _ e, h c' hc']
    congr 1
    apply List.ext_getElem?
    intro i
    simp only [List.getElem?_take, List.getElem?_drop]
    rw [splice_get _ _ _ hl]
    by_cases h16 : i < 16
    · rw [if_pos h16, if_pos h16, if_neg (by omega)]
    · rw [if_neg h16, if_neg h16]
theorem writeC_zero (c r : Nat) (new : List LV) (ch : Ch) : writeC 0 c r new ch = ch := rfl
theorem writeC_nil (f c r : Nat) (ch : Ch) : writeC f c r [] ch = ch := by cases f <;> rfl
theorem writeC_eq : ∀ (f c r : Nat) (new cs : List LV) (ch : Ch), Rep ch cs → 16 * c + r + new.length ≤ cs.length → r < 16 → new.length + r ≤ 16 * f → Rep (writeC f c r new ch) (splice cs (16 * c + r) new)
  | 0, c, r, new, cs, ch, h, hl, hr, hf => by
    have : new = [] := by cases new with | nil => rfl | cons _ _ => simp at hf
    subst this
    simpa [writeC_zero, splice] using h
  | f + 1, c, r, [], cs, ch, h, hl, hr, hf => by simpa [writeC_nil, splice] using h
  | f + 1, c, r, a :: new, cs, ch, h, hl, hr, hf => by
    show Rep (writeC f (c + 1) 0 (dropR (16 - r) (a :: new)) (T.set ch c (putR (chunk ch c) r (takeR (16 - r) (a :: new))))) _
    rw [dropR_eq, takeR_eq]
    have hl1 : ((a :: new).take (16 - r)).length ≤ (a :: new).length := by simp [List.length_take]; omega
    have h1 := h.write1 (new := (a :: new).take (16 - r)) (c := c) (r := r) (by omega) (by simp [List.length_take]; omega) hr (by simp [List.length_take]; omega)
    by_cases hb : (a :: new).length ≤ 16 - r
    · rw [List.drop_eq_nil_of_le hb]
      rw [List.take_of_length_le hb] at h1 ⊢
      simpa [writeC_nil] using h1
    · have e2 : ((a :: new).take (16 - r)).length = 16 - r := by rw [List.length_take]; omega
      have hsl : (splice cs (16 * c + r) ((a :: new).take (16 - r))).length = cs.length := splice_length _ _ _ (by omega)
      have := writeC_eq f (c + 1) 0 ((a :: new).drop (16 - r)) _ _ h1 (by rw [hsl, List.length_drop]; omega) (by omega) (by simp only [List.length_drop]; omega)
      have e3 : 16 * (c + 1) + 0 = 16 * c + r + ((a :: new).take (16 - r)).length := by rw [e2]; omega
      rw [e3, ← splice_add _ _ _ _ (by rw [List.take_append_drop]; exact hl), List.take_append_drop] at this
      exact this
/-- Of a list. -/
def ofL (cs : List LV) : Ch := appC (Nat.succ (Nat.div (lenR cs) 16)) 0 0 cs .nil
theorem ofL_rep (cs : List LV) : Rep (ofL cs) cs := by
  have := appC_eq (lenR cs / 16 + 1) 0 0 cs [] .nil (fun c hc => by simp at hc) rfl (by omega) (by rw [lenR_eq]; omega)
  exact (by simpa using this : Rep (appC (lenR cs / 16 + 1) 0 0 cs .nil) cs)
end
end Go.Ev

namespace Go.Ev
noncomputable section
set_option linter.unusedSimpArgs false
set_option linter.unusedVariables false

/-! ## The quick evaluator's memory -/
def natF {α : Type} (n : Nat) (k : Nat → α) : α := Nat.rec (motive := fun _ => α) (k 0) (fun m _ => k (Nat.succ m)) n
@[simp] theorem natF_eq {α : Type} (n : Nat) (k : Nat → α) : natF n k = k n := by cases n <;> rfl
inductive FO where
  | row (ch : Ch) (len gen wlo : Nat)
  | obj (o : HObj)
structure FH where
  objs : T FO
  next : Nat
inductive OR where
  | ok (v : LV) (h : FH)
  | no
def FH.empty : FH := ⟨.nil, 0⟩
def HRO : FO → HObj → Prop
  | .row ch len gen wlo, .row cs gen' wlo' => Rep ch cs ∧ len = cs.length ∧ gen = gen' ∧ wlo = wlo'
  | .row _ _ _ _, _ => False
  | .obj o, o' => o = o'
structure HR (f : FH) (h : Heap) : Prop where
  next : f.next = h.next
  get : ∀ b fo, T.get f.objs b = some fo → ∃ o, h.get b = some o ∧ HRO fo o
theorem HR.empty : HR .empty .empty := ⟨rfl, fun b fo hb => by simp [FH.empty, T.get_nil] at hb⟩
theorem HR.set {f : FH} {h : Heap} (r : HR f h) (b : Nat) {fo : FO} {o : HObj} (ho : HRO fo o) : HR ⟨T.set f.objs b fo, f.next⟩ (h.set b o) := by
  refine ⟨r.next, fun c fo' hc => ?_⟩
  by_cases e : b = c
  · subst e
    rw [T.get_set_same] at hc
    cases hc
    exact ⟨o, Heap.get_set_same .., ho⟩
  · rw [T.get_set_ne _ _ e] at hc
    obtain ⟨o', h1, h2⟩ := r.get c fo' hc
    exact ⟨o', by rw [Heap.get_set_ne _ _ e]; exact h1, h2⟩
theorem HR.new {f : FH} {h : Heap} (r : HR f h) {fo : FO} {o : HObj} (ho : HRO fo o) : HR ⟨T.set f.objs f.next fo, Nat.succ f.next⟩ (h.new o).2 := by
  refine ⟨by simp [r.next], fun c fo' hc => ?_⟩
  by_cases e : f.next = c
  · subst e
    rw [T.get_set_same] at hc
    cases hc
    exact ⟨o, by rw [r.next]; exact Heap.get_new_same .., ho⟩
  · rw [T.get_set_ne _ _ e] at hc
    obtain ⟨o', h1, h2⟩ := r.get c fo' hc
    exact ⟨o', by rw [Heap.get_new_ne _ _ (by rw [← r.next]; exact e)]; exact h1, h2⟩
theorem HR.row {f : FH} {h : Heap} (r : HR f h) {b : Nat} {ch : Ch} {len gen wlo : Nat} (hb : T.get f.objs b = some (.row ch len gen wlo)) : ∃ cs, h.get b = some (.row cs gen wlo) ∧ Rep ch cs ∧ len = cs.length := by
  obtain ⟨o, h1, h2⟩ := r.get b _ hb
  cases o with
  | row cs gen' wlo' =>
    obtain ⟨a1, a2, a3, a4⟩ := h2
    subst a3; subst a4
    exact ⟨cs, h1, a1, a2⟩
  | map _ _ => exact h2.elim
  | hole => exact h2.elim
  | iter _ _ => exact h2.elim
  | loop _ => exact h2.elim
theorem HR.obj {f : FH} {h : Heap} (r : HR f h) {b : Nat} {o : HObj} (hb : T.get f.objs b = some (.obj o)) : h.get b = some o := by
  obtain ⟨o', h1, h2⟩ := r.get b _ hb
  have : o = o' := by cases o' <;> exact h2
  rw [this]; exact h1

def fRow {α : Type} (f : FH) (b : Nat) (k : Ch → Nat → Nat → Nat → α) (d : α) : α :=
  Option.rec (motive := fun _ => α) d (fun fo => FO.rec (motive := fun _ => α) k (fun _ => d) fo) (T.get f.objs b)
def fObj {α : Type} (f : FH) (b : Nat) (k : HObj → α) (d : α) : α :=
  Option.rec (motive := fun _ => α) d (fun fo => FO.rec (motive := fun _ => α) (fun _ _ _ _ => d) k fo) (T.get f.objs b)
theorem fRow_some {α : Type} {f : FH} {b : Nat} {k : Ch → Nat → Nat → Nat → Option α} {x : α} (e : fRow f b k none = some x) : ∃ ch len gen wlo, T.get f.objs b = some (.row ch len gen wlo) ∧ k ch len gen wlo = some x := by
  unfold fRow at e
  cases hg : T.get f.objs b with
  | none => rw [hg] at e; cases e
  | some fo =>
    rw [hg] at e
    cases fo with
    | row ch len gen wlo => exact ⟨ch, len, gen, wlo, rfl, e⟩
    | obj o => cases e
theorem fRow_ok {f : FH} {b : Nat} {k : Ch → Nat → Nat → Nat → OR} {v : LV} {f' : FH} (e : fRow f b k .no = .ok v f') : ∃ ch len gen wlo, T.get f.objs b = some (.row ch len gen wlo) ∧ k ch len gen wlo = .ok v f' := by
  unfold fRow at e
  cases hg : T.get f.objs b with
  | none => rw [hg] at e; cases e
  | some fo =>
    rw [hg] at e
    cases fo with
    | row ch len gen wlo => exact ⟨ch, len, gen, wlo, rfl, e⟩
    | obj o => cases e
theorem fObj_some {α : Type} {f : FH} {b : Nat} {k : HObj → Option α} {x : α} (e : fObj f b k none = some x) : ∃ o, T.get f.objs b = some (.obj o) ∧ k o = some x := by
  unfold fObj at e
  cases hg : T.get f.objs b with
  | none => rw [hg] at e; cases e
  | some fo =>
    rw [hg] at e
    cases fo with
    | row ch len gen wlo => cases e
    | obj o => exact ⟨o, rfl, e⟩

def hiF (g gen wlo o n : Nat) : Bool := Bool.rec (motive := fun _ => Bool) (Nat.ble (Nat.add o n) wlo) true (Nat.beq g gen)
theorem hiF_eq (g gen wlo o n : Nat) : hiF g gen wlo o n = isHi g gen wlo o n := by unfold hiF isHi; cases Nat.beq g gen <;> rfl
def andF (a b : Bool) : Bool := Bool.rec (motive := fun _ => Bool) false b a
@[simp] theorem andF_eq (a b : Bool) : andF a b = (a && b) := by cases a <;> rfl
def ifF {α : Type} (c : Bool) (x y : α) : α := Bool.rec (motive := fun _ => α) y x c
theorem ifF_some {α : Type} {c : Bool} {x : Option α} {y : α} (h : ifF c x none = some y) : c = true ∧ x = some y := by cases c; cases h; exact ⟨rfl, h⟩
theorem ifF_ok {c : Bool} {x : OR} {v : LV} {f : FH} (h : ifF c x .no = .ok v f) : c = true ∧ x = .ok v f := by cases c; cases h; exact ⟨rfl, h⟩
def readF (f : FH) (b g o n : Nat) : Option (List LV) :=
  fRow f b (fun ch len gen wlo => ifF (andF (hiF g gen wlo o n) (Nat.ble (Nat.add o n) len)) (some (readC ch (Nat.succ (Nat.div (Nat.add n (Nat.mod o 16)) 16)) (Nat.div o 16) (Nat.mod o 16) n)) none) none
theorem readF_ok {f : FH} {h : Heap} (r : HR f h) {b g o n : Nat} {cs : List LV} (e : readF f b g o n = some cs) : readN h b g o n = some cs := by
  obtain ⟨ch, len, gen, wlo, h1, h2⟩ := fRow_some e
  obtain ⟨cs0, h3, h4, h5⟩ := r.row h1
  obtain ⟨h6, h7⟩ := ifF_some h2
  rw [andF_eq, hiF_eq, h5] at h6
  unfold readN
  rw [h3]
  simp only
  have h8 : (isHi g gen wlo o n && Nat.ble (o + n) cs0.length) = true := h6
  rw [h8]
  simp only
  rw [Bool.and_eq_true] at h8
  have hle : o + n ≤ cs0.length := by simpa using h8.2
  have e2 : 16 * (o / 16) + o % 16 = o := Nat.div_add_mod o 16
  have h9 := readC_eq h4 ((n + o % 16) / 16 + 1) (o / 16) (o % 16) n (by omega) (by omega) (by omega)
  rw [e2] at h9
  rw [← h9]
  exact h7
def cellC (ch : Ch) (o : Nat) : Option LV := headR (dropR (Nat.mod o 16) (chunk ch (Nat.div o 16)))
def cellF (f : FH) (b g o : Nat) : Option LV :=
  fRow f b (fun ch len gen wlo => ifF (andF (hiF g gen wlo o 1) (Nat.blt o len)) (cellC ch o) none) none
theorem cellF_ok {f : FH} {h : Heap} (r : HR f h) {b g o : Nat} {v : LV} (e : cellF f b g o = some v) : readN h b g o 1 = some [v] := by
  obtain ⟨ch, len, gen, wlo, h1, h2⟩ := fRow_some e
  obtain ⟨cs0, h3, h4, h5⟩ := r.row h1
  obtain ⟨h6, h7⟩ := ifF_some h2
  rw [andF_eq, hiF_eq, h5, Bool.and_eq_true] at h6
  have hlt : o < cs0.length := by simpa [blt_eq] using h6.2
  have hble : Nat.ble (o + 1) cs0.length = true := by rw [← h5]; rw [← h5] at h6; exact h6.2
  unfold readN
  rw [h3]
  simp only [h6.1, hble, Bool.and_self]
  unfold cellC at h7
  rw [headR_eq, dropR_eq] at h7
  have e2 : 16 * (o / 16) + o % 16 = o := Nat.div_add_mod o 16
  have h8 : chunk ch (Nat.div o 16) = (cs0.drop (16 * (o / 16))).take 16 := chunk_eq h4 (o / 16) (by omega)
  rw [h8] at h7
  have h9 : (List.drop (o % 16) (List.take 16 (List.drop (16 * (o / 16)) cs0))).head? = some v := h7
  rw [List.head?_drop, List.getElem?_take, if_pos (by omega), List.getElem?_drop, e2] at h9
  rw [List.take_one, List.head?_drop, h9]
  rfl
def wloF (gen wlo o : Nat) : Nat := Bool.rec (motive := fun _ => Nat) (Nat.min wlo o) wlo (Nat.beq gen 0)
theorem wloF_eq (gen wlo o : Nat) : wloF gen wlo o = (match Nat.beq gen 0 with | true => wlo | false => Nat.min wlo o) := by unfold wloF; cases Nat.beq gen 0 <;> rfl
def writeF (f : FH) (b g o : Nat) (new : List LV) : Option FH :=
  fRow f b (fun ch len gen wlo => ifF (andF (Nat.beq g gen) (Nat.ble (Nat.add o (lenR new)) len))
    (some ⟨T.set f.objs b (.row (writeC (Nat.succ (Nat.div (Nat.add (lenR new) (Nat.mod o 16)) 16)) (Nat.div o 16) (Nat.mod o 16) new ch) len gen (wloF gen wlo o)), f.next⟩) none) none
theorem writeF_ok {f f' : FH} {h : Heap} (r : HR f h) {b g o : Nat} {new : List LV} (e : writeF f b g o new = some f') : ∃ h', writeN h b g o new = some h' ∧ HR f' h' := by
  obtain ⟨ch, len, gen, wlo, h1, h2⟩ := fRow_some e
  obtain ⟨cs0, h3, h4, h5⟩ := r.row h1
  obtain ⟨h6, h7⟩ := ifF_some h2
  cases h7
  rw [andF_eq, lenR_eq, h5] at h6
  have h6' : (Nat.beq g gen && Nat.ble (o + new.length) cs0.length) = true := h6
  unfold writeN
  rw [h3]
  simp only [h6']
  rw [Bool.and_eq_true] at h6'
  have hle : o + new.length ≤ cs0.length := by simpa using h6'.2
  refine ⟨_, rfl, r.set b ⟨?_, by rw [splice_length _ _ _ hle]; exact h5, rfl, wloF_eq ..⟩⟩
  have e2 : 16 * (o / 16) + o % 16 = o := Nat.div_add_mod o 16
  have h9 := writeC_eq ((new.length + o % 16) / 16 + 1) (o / 16) (o % 16) new cs0 ch h4 (by omega) (by omega) (by omega)
  rw [e2] at h9
  rw [lenR_eq]
  exact h9
/-- A new row. -/
def rowF (f : FH) (cs : List LV) (mk : Nat → LV) : OR := .ok (mk f.next) ⟨T.set f.objs f.next (.row (ofL cs) (lenR cs) 0 0), Nat.succ f.next⟩
theorem rowF_ok {f f' : FH} {h : Heap} (r : HR f h) {cs : List LV} {mk : Nat → LV} {v : LV} (e : rowF f cs mk = .ok v f') : v = mk h.next ∧ HR f' (h.new (.row cs 0 0)).2 := by
  unfold rowF at e
  cases e
  exact ⟨by rw [r.next], r.new ⟨ofL_rep cs, lenR_eq cs, rfl, rfl⟩⟩
def objF (f : FH) (o : HObj) (mk : Nat → LV) : OR := .ok (mk f.next) ⟨T.set f.objs f.next (.obj o), Nat.succ f.next⟩
theorem objF_ok {f f' : FH} {h : Heap} (r : HR f h) {o : HObj} {mk : Nat → LV} {v : LV} (e : objF f o mk = .ok v f') : v = mk h.next ∧ HR f' (h.new o).2 := by
  unfold objF at e
  cases e
  exact ⟨by rw [r.next], r.new (by cases o <;> rfl)⟩
end
end Go.Ev

namespace Go.Ev
noncomputable section
set_option linter.unusedSimpArgs false
set_option linter.unusedVariables false

/-! ## The quick evaluator: values -/
inductive Arg where
  | t (p : Path)
  | c (v : LV)
def gvF (p : Path) (tm : T LV) : LV := Option.rec (motive := fun _ => LV) LV.undef (fun v => v) (T.getP tm p)
def Arg.val (a : Arg) (tm : T LV) : LV := Arg.rec (motive := fun _ => LV) (fun p => gvF p tm) (fun v => v) a
def argOf : Operand → Option Arg
  | .tmp t => some (.t (path t))
  | .const v => (ofValue 4 v).map .c
  | .func f => some (.c (.fn f [] []))
  | .global _ => none
theorem gvF_eq (t : Nat) (tm : T LV) : gvF (path t) tm = Tmps.get tm t := by
  unfold gvF Tmps.get T.get
  cases T.getP tm (path t) <;> rfl
theorem argOf_ok {x : Operand} {a : Arg} (h : argOf x = some a) (tm : T LV) : val tm x = some (a.val tm) := by
  cases x with
  | tmp t => cases h; show some _ = some (gvF (path t) tm); rw [gvF_eq]
  | const v =>
    have h' : (ofValue 4 v).map Arg.c = some a := h
    cases hu : ofValue 4 v with
    | none => rw [hu] at h'; cases h'
    | some u => rw [hu] at h'; cases h'; exact hu
  | global g => cases h
  | func f => cases h; rfl

section
variable {α : Type}
def onPtr (v : LV) (p : Nat → Nat → Nat → α) (vp : List LV → α) (d : α) : α := match v with | .ptr b g o => p b g o | .vptr cs => vp cs | _ => d
def onInt (v : LV) (f : IntKind → Int → α) (d : α) : α := match v with | .int k n => f k n | _ => d
def onNat (v : LV) (f : Nat → α) (d : α) : α := onInt v (fun _ n => Int.rec (motive := fun _ => α) f (fun _ => d) n) d
def onBool (v : LV) (f : Bool → α) (d : α) : α := match v with | .bool b => f b | _ => d
def onStr (v : LV) (f : List Nat → α) (d : α) : α := match v with | .str s => f s | _ => d
def onSl (v : LV) (f : Nat → Nat → Nat → Nat → Option Nat → Nat → α) (vs : List LV → Nat → α) (n : α) (d : α) : α := match v with | .slice b g o len cap es => f b g o len cap es | .vs cs len => vs cs len | .nils => n | _ => d
def onFn (v : LV) (f : FuncId → List LV → List LV → α) (y : Nat → α) (d : α) : α := match v with | .fn g a c => f g a c | .yld l => y l | _ => d
def onTuple (v : LV) (f : List LV → α) (d : α) : α := match v with | .tuple vs => f vs | _ => d
def onAgg (v : LV) (f : List LV → α) (d : α) : α := match v with | .agg vs => f vs | _ => d
def optF {β : Type} (x : Option β) (f : β → α) (d : α) : α := Option.rec (motive := fun _ => α) d f x
end
def orF (x : Option LV) (h : FH) : OR := Option.rec (motive := fun _ => OR) .no (fun v => .ok v h) x
theorem orF_ok {x : Option LV} {h h' : FH} {v : LV} (e : orF x h = .ok v h') : x = some v ∧ h = h' := by
  cases x with
  | none => cases e
  | some u => cases e; exact ⟨rfl, rfl⟩
theorem optF_some {β γ : Type} {x : Option β} {f : β → Option γ} {y : γ} (e : optF x f none = some y) : ∃ z, x = some z ∧ f z = some y := by cases x with | none => cases e | some z => exact ⟨z, rfl, e⟩
theorem optF_ok {β : Type} {x : Option β} {f : β → OR} {v : LV} {h : FH} (e : optF x f .no = .ok v h) : ∃ z, x = some z ∧ f z = .ok v h := by cases x with | none => cases e | some z => exact ⟨z, rfl, e⟩
theorem onNat_some {γ : Type} {v : LV} {f : Nat → Option γ} {y : γ} (e : onNat v f none = some y) : ∃ n, asNat? v = some n ∧ f n = some y := by
  unfold onNat onInt at e
  split at e
  · rename_i k n
    cases n with
    | ofNat n => exact ⟨n, rfl, e⟩
    | negSucc n => cases e
  · cases e

/-! ### numbers -/
def ikF (k : IntKind) : Nat := IntKind.rec (motive := fun _ => Nat) 0 1 2 3 4 5 6 7 k
theorem ikF_inj {k k' : IntKind} (h : Nat.beq (ikF k) (ikF k') = true) : k = k' := by
  have : ikF k = ikF k' := Nat.eq_of_beq_eq_true h
  cases k <;> cases k' <;> first | rfl | (exact absurd this (by decide))
def p2F (k : IntKind) : Nat := IntKind.rec (motive := fun _ => Nat) (pow2 .i8) (pow2 .i16) (pow2 .i32) (pow2 .i64) (pow2 .u8) (pow2 .u16) (pow2 .u32) (pow2 .u64) k
theorem p2F_eq (k : IntKind) : p2F k = pow2 k := by cases k <;> rfl
def unwF (k : IntKind) (m : Nat) : Int :=
  natF m fun m => IntKind.rec (motive := fun _ => Int) (unwrapU .i8 m) (unwrapU .i16 m) (unwrapU .i32 m) (Bool.rec (motive := fun _ => Int) (.negSucc (18446744073709551615 - m)) (.ofNat m) (Nat.blt m 9223372036854775808)) (.ofNat m) (.ofNat m) (.ofNat m) (.ofNat m) k
theorem unwF_eq (k : IntKind) (m : Nat) : unwF k m = unwrapU k m := by
  unfold unwF
  rw [natF_eq]
  cases k <;> first | rfl | (show Bool.rec (motive := fun _ => Int) (.negSucc (18446744073709551615 - m)) (.ofNat m) (Nat.blt m 9223372036854775808) = _; unfold unwrapU; simp only [IntKind.signed, half, pow2]; cases Nat.blt m 9223372036854775808 <;> rfl)
def wrapF (k : IntKind) (x : Int) : Int := Int.rec (motive := fun _ => Int) (fun a => unwF k (Nat.mod a (p2F k))) (fun a => wrap k (.negSucc a)) x
theorem wrapF_eq (k : IntKind) (x : Int) : wrapF k x = wrap k x := by
  cases x with
  | ofNat a => show unwF k (a % p2F k) = _; rw [unwF_eq, p2F_eq]; rfl
  | negSucc a => rfl
def natOp (f : Nat → Nat → Int) (g : Int → Int → Int) (x y : Int) : Int := Int.rec (motive := fun _ => Int) (fun a => Int.rec (motive := fun _ => Int) (fun b => f a b) (fun b => g x y) y) (fun a => g x y) x
def addI (x y : Int) : Int := natOp (fun a b => .ofNat (Nat.add a b)) (fun x y => x + y) x y
theorem addI_eq (x y : Int) : addI x y = x + y := by cases x <;> cases y <;> rfl
def mulI (x y : Int) : Int := natOp (fun a b => .ofNat (Nat.mul a b)) (fun x y => x * y) x y
theorem mulI_eq (x y : Int) : mulI x y = x * y := by cases x <;> cases y <;> rfl
def subI (x y : Int) : Int := natOp (fun a b => Bool.rec (motive := fun _ => Int) (Int.subNatNat a b) (.ofNat (Nat.sub a b)) (Nat.ble b a)) (fun x y => x - y) x y
theorem subI_eq (x y : Int) : subI x y = x - y := by
  cases x with
  | ofNat a =>
    cases y with
    | ofNat b =>
      show Bool.rec (motive := fun _ => Int) (Int.subNatNat a b) (.ofNat (Nat.sub a b)) (Nat.ble b a) = _
      cases hb : Nat.ble b a with
      | false =>
        show Int.subNatNat a b = _
        rw [Int.subNatNat_eq_coe]; rfl
      | true =>
        have : b ≤ a := by simpa using hb
        show Int.ofNat (a - b) = Int.ofNat a - Int.ofNat b
        simp; omega
    | negSucc b => rfl
  | negSucc a => cases y <;> rfl
def boolOp (f : Nat → Nat → Bool) (g : Int → Int → Bool) (x y : Int) : Bool := Int.rec (motive := fun _ => Bool) (fun a => Int.rec (motive := fun _ => Bool) (fun b => f a b) (fun b => g x y) y) (fun a => g x y) x
def ltI (x y : Int) : Bool := boolOp (fun a b => Nat.blt a b) ilt x y
theorem ltI_eq (x y : Int) : ltI x y = ilt x y := by cases x <;> cases y <;> rfl
def eqI (x y : Int) : Bool := boolOp (fun a b => Nat.beq a b) ieq x y
theorem eqI_eq (x y : Int) : eqI x y = ieq x y := by cases x <;> cases y <;> rfl
def notF (b : Bool) : Bool := Bool.rec (motive := fun _ => Bool) true false b
theorem notF_eq (b : Bool) : notF b = !b := by cases b <;> rfl
def bitI (k : IntKind) (f : Nat → Nat → Nat) (x y : Int) : Int := unwF k (f (bitsOf k x) (bitsOf k y))
def bitsF (k : IntKind) (x : Int) : Nat := Int.rec (motive := fun _ => Nat) (fun a => Nat.mod a (p2F k)) (fun a => bitsOf k (.negSucc a)) x
theorem bitsF_eq (k : IntKind) (x : Int) : bitsF k x = bitsOf k x := by
  cases x with
  | ofNat a => show Nat.mod a (p2F k) = _; rw [p2F_eq]; rfl
  | negSucc a => rfl
def remI (x y : Int) : Int := natOp (fun a b => .ofNat (Nat.mod a b)) (fun x y => x.tmod y) x y
theorem remI_eq (x y : Int) : remI x y = x.tmod y := by cases x <;> cases y <;> rfl
def quoI (x y : Int) : Int := natOp (fun a b => .ofNat (Nat.div a b)) (fun x y => x.tdiv y) x y
theorem quoI_eq (x y : Int) : quoI x y = x.tdiv y := by cases x <;> cases y <;> rfl
/-- Of two numbers of one kind. -/
def arithF (op : BinOp) : IntKind → Int → Int → Option LV :=
  match op with
  | .add => fun k x y => some (.int k (wrapF k (addI x y)))
  | .sub => fun k x y => some (.int k (wrapF k (subI x y)))
  | .mul => fun k x y => some (.int k (wrapF k (mulI x y)))
  | .quo => fun k x y => ifF (eqI y 0) none (some (.int k (wrapF k (quoI x y))))
  | .rem => fun k x y => ifF (eqI y 0) none (some (.int k (remI x y)))
  | .and => fun k x y => some (.int k (unwF k (Nat.land (bitsF k x) (bitsF k y))))
  | .or => fun k x y => some (.int k (unwF k (Nat.lor (bitsF k x) (bitsF k y))))
  | .xor => fun k x y => some (.int k (unwF k (Nat.xor (bitsF k x) (bitsF k y))))
  | .eql => fun _ x y => some (.bool (eqI x y))
  | .neq => fun _ x y => some (.bool (notF (eqI x y)))
  | .lss => fun _ x y => some (.bool (ltI x y))
  | .leq => fun _ x y => some (.bool (notF (ltI y x)))
  | .gtr => fun _ x y => some (.bool (ltI y x))
  | .geq => fun _ x y => some (.bool (notF (ltI x y)))
  | op => arith op
theorem arithF_eq (op : BinOp) (k : IntKind) (x y : Int) : arithF op k x y = arith op k x y := by
  cases op <;> simp only [arithF, arith, wrapF_eq, addI_eq, subI_eq, mulI_eq, quoI_eq, remI_eq, unwF_eq, bitsF_eq, eqI_eq, ltI_eq, notF_eq] <;> first | rfl | (cases ieq y 0 <;> rfl)
def shF (op : BinOp) : IntKind → Int → Int → Option LV :=
  match op with
  | .shl => fun k x y => Int.rec (motive := fun _ => Option LV) (fun n => some (.int k (wrapF k (mulI x (.ofNat (Nat.pow 2 (Nat.min n (kbits k)))))))) (fun _ => none) y
  | .shr => fun k x y => Int.rec (motive := fun _ => Option LV) (fun n => some (.int k (natOp (fun a b => .ofNat (Nat.div a b)) Int.fdiv x (.ofNat (Nat.pow 2 (Nat.min n (kbits k))))))) (fun _ => none) y
  | _ => fun _ _ _ => none
theorem shF_ok {op : BinOp} {k : IntKind} {x y : Int} {v : LV} (h : shF op k x y = some v) : (op = .shl ∨ op = .shr) ∧ shiftOp op k x y = some v := by
  cases op <;> first | (cases h; done) | skip
  · refine ⟨.inl rfl, ?_⟩
    cases y with
    | negSucc n => cases h
    | ofNat n =>
      rw [← h]
      show _ = some (LV.int k (wrapF k (mulI x _)))
      rw [wrapF_eq, mulI_eq]
      rfl
  · refine ⟨.inr rfl, ?_⟩
    cases y with
    | negSucc n => cases h
    | ofNat n =>
      rw [← h]
      show some (LV.int k (x.fdiv _)) = some (LV.int k (natOp _ Int.fdiv x _))
      cases x with
      | ofNat a =>
        have : ∀ m : Nat, (Int.ofNat a).fdiv (Int.ofNat m) = Int.ofNat (a / m) := fun m => by cases a with | zero => show (0 : Int) = Int.ofNat (0 / m); rw [Nat.zero_div]; rfl | succ a => rfl
        exact congrArg (fun z => some (LV.int k z)) (this _)
      | negSucc a => rfl
/-- Of strings. -/
def listBeqF (x : List Nat) : List Nat → Bool := List.rec (motive := fun _ => List Nat → Bool) (fun y => List.rec (motive := fun _ => Bool) true (fun _ _ _ => false) y)
  (fun a _ ih y => List.rec (motive := fun _ => Bool) false (fun b t _ => Bool.rec (motive := fun _ => Bool) false (ih t) (Nat.beq a b)) y) x
theorem listBeqF_eq : ∀ x y : List Nat, listBeqF x y = listBeq x y
  | [], [] => rfl
  | [], _ :: _ => rfl
  | _ :: _, [] => rfl
  | a :: x, b :: y => by
    show Bool.rec (motive := fun _ => Bool) false (listBeqF x y) (Nat.beq a b) = _
    unfold listBeq
    rw [listBeqF_eq x y]
    cases Nat.beq a b <;> rfl
def lenT {α : Type} (l : List α) : Nat := List.rec (motive := fun _ => Nat → Nat) (fun n => n) (fun _ _ ih n => natF n fun n => ih (Nat.succ n)) l 0
theorem lenT_eq {α : Type} (l : List α) : lenT l = l.length := by
  have : ∀ (l : List α) (n : Nat), (List.rec (motive := fun _ => Nat → Nat) (fun n => n) (fun _ _ ih n => natF n fun n => ih (Nat.succ n)) l : Nat → Nat) n = n + l.length := by
    intro l
    induction l with
    | nil => intro n; rfl
    | cons a l ih => intro n; show natF n _ = _; rw [natF_eq, ih]; simp; omega
  unfold lenT
  rw [this]; simp
def strF (op : BinOp) (x y : List Nat) : Option LV :=
  match op with
  | .add => ifF (Nat.ble (Nat.add (lenT x) (lenT y)) 9223372036854775807) (some (.str (appR x y))) none
  | .eql => some (.bool (listBeqF x y))
  | .neq => some (.bool (notF (listBeqF x y)))
  | op => strOp op x y
theorem strF_eq (op : BinOp) (x y : List Nat) : strF op x y = strOp op x y := by
  cases op <;> simp only [strF, strOp, listBeqF_eq, notF_eq, lenT_eq, appR_eq] <;> (show ifF (Nat.ble (x.length + y.length) _) _ _ = _; cases Nat.ble (x.length + y.length) 9223372036854775807 <;> rfl)
/-- Of numbers and of strings, quickly; of others, as ever. -/
def binF (P : Program) (op : BinOp) (t : TypeId) (sh : Bool) (ar : IntKind → Int → Int → Option LV) (x y : LV) : Option LV :=
  match x, y with
  | .int k a, .int k' b => Bool.rec (motive := fun _ => Option LV) (ifF (Nat.beq (ikF k) (ikF k')) (ar k a b) none) (ar k a b) sh
  | .str a, .str b => strF op a b
  | x, y => binOpE P op t x y
def isSh : BinOp → Bool
  | .shl | .shr => true
  | _ => false
def arOf (op : BinOp) : IntKind → Int → Int → Option LV := match isSh op with | true => shF op | false => arithF op
theorem binF_ok {P : Program} {op : BinOp} {t : TypeId} {x y v : LV} (h : binF P op t (isSh op) (arOf op) x y = some v) : binOpE P op t x y = some v := by
  unfold binF at h
  split at h
  · rename_i k a k' b
    cases hs : isSh op with
    | true =>
      rw [hs] at h
      have h' : shF op k a b = some v := by
        have : arOf op = shF op := by unfold arOf; rw [hs]
        rw [this] at h; exact h
      obtain ⟨h1, h2⟩ := shF_ok h'
      rcases h1 with rfl | rfl <;> exact h2
    | false =>
      rw [hs] at h
      have h' : ifF (Nat.beq (ikF k) (ikF k')) (arithF op k a b) none = some v := by
        have : arOf op = arithF op := by unfold arOf; rw [hs]
        rw [this] at h; exact h
      obtain ⟨h1, h2⟩ := ifF_some h'
      have := ikF_inj h1
      subst this
      rw [arithF_eq] at h2
      cases op <;> first | (cases hs; done) | (simp only [binOpE, if_pos]; exact h2)
  · rename_i a b
    rw [strF_eq] at h
    cases op <;> first | exact h | (cases h; done)
  · exact h
end
end Go.Ev

namespace Go.Ev
noncomputable section
set_option linter.unusedSimpArgs false
set_option linter.unusedVariables false

/-! ## The quick evaluator: operations -/
abbrev FC := FuncId → List LV → FH → OR
abbrev FY := Nat → List LV → FH → OR
abbrev FOp := FC → FY → T LV → FH → OR
abbrev Yld := Nat → List LV → Heap → Option (LV × Heap)
def CR (cf : FC) (call : CallF) : Prop := ∀ f args fh h r fh', HR fh h → cf f args fh = .ok r fh' → ∃ h', call f args h = some (r, h') ∧ HR fh' h'
def YR (yf : FY) (yld : Yld) : Prop := ∀ l args fh h r fh', HR fh h → yf l args fh = .ok r fh' → ∃ h', yld l args h = some (r, h') ∧ HR fh' h'
def OpR (P : Program) (op : Op) (f : FOp) : Prop := ∀ (cf : FC) (yf : FY) (call : CallF) (yld : Yld), CR cf call → YR yf yld →
  ∀ (tm : T LV) (o : Oper) (fh : FH) (h : Heap) (v : LV) (fh' : FH), o.op = op → HR fh h → f cf yf tm fh = .ok v fh' → ∃ h', evOp P call yld tm o h = some (v, h') ∧ HR fh' h'
def pureF (k : T LV → Option LV) : FOp := fun _ _ tm h => orF (k tm) h
theorem pureF_ok {P : Program} {op : Op} {k : T LV → Option LV} (hk : ∀ tm v, k tm = some v → ∀ (call : CallF) (yld : Yld) (o : Oper) (h : Heap), o.op = op → evOp P call yld tm o h = some (v, h)) : OpR P op (pureF k) := by
  intro cf yf call yld hc hy tm o fh h v fh' ho hr he
  obtain ⟨h1, rfl⟩ := orF_ok he
  exact ⟨h, hk tm v h1 call yld o h ho, hr⟩
def heapF (k : T LV → FH → Option LV) : FOp := fun _ _ tm h => orF (k tm h) h
theorem heapF_ok {P : Program} {op : Op} {k : T LV → FH → Option LV} (hk : ∀ tm fh v, k tm fh = some v → ∀ (call : CallF) (yld : Yld) (o : Oper) (h : Heap), HR fh h → o.op = op → evOp P call yld tm o h = some (v, h)) : OpR P op (heapF k) := by
  intro cf yf call yld hc hy tm o fh h v fh' ho hr he
  obtain ⟨h1, rfl⟩ := orF_ok he
  exact ⟨h, hk tm fh v h1 call yld o h hr ho, hr⟩

def valsF (as : List Arg) (tm : T LV) : List LV := List.rec (motive := fun _ => List LV) [] (fun a _ ih => a.val tm :: ih) as
def argsOf : List Operand → Option (List Arg)
  | [] => some []
  | x :: xs => (argOf x).bind fun a => (argsOf xs).map fun as => a :: as
theorem argsOf_ok (tm : T LV) : ∀ {xs : List Operand} {as : List Arg}, argsOf xs = some as → xs.mapM (val tm) = some (valsF as tm)
  | [], as, h => by cases h; rfl
  | x :: xs, as, h => by
    unfold argsOf at h
    obtain ⟨a, h1, h⟩ := bnd h
    obtain ⟨as', h2, e⟩ := mp h
    subst e
    simp only [List.mapM_cons, argOf_ok h1 tm, argsOf_ok tm h2, Option.pure_def, Option.bind_eq_bind, Option.bind_some]
    rfl
theorem vals_ok {tm : T LV} {xs : Array Operand} {as : List Arg} (h : argsOf xs.toList = some as) : vals tm xs = some (valsF as tm) := argsOf_ok tm h

section
variable {P : Program}
/-! ### load and store -/
def loadK1 (a : Arg) (tm : T LV) (h : FH) : Option LV := onPtr (a.val tm) (fun b g o => cellF h b g o) (fun cs => headR cs) none
def loadKN (n : Nat) (a : Arg) (tm : T LV) (h : FH) : Option LV :=
  onPtr (a.val tm) (fun b g o => optF (readF h b g o n) (fun cs => some (.agg cs)) none) (fun cs => ifF (Nat.ble n (lenR cs)) (some (.agg (takeR n cs))) none) none
def cLoad (P : Program) (t : TypeId) (x : Operand) : Option FOp := (argOf x).bind fun a => (isAggB P t).bind fun ag => match ag with
  | true => (szOf P t).map fun n => heapF (loadKN n a)
  | false => some (heapF (loadK1 a))
theorem cLoad_ok {t : TypeId} {x : Operand} {f : FOp} (h : cLoad P t x = some f) : OpR P (.load t x) f := by
  unfold cLoad at h
  obtain ⟨a, h1, h⟩ := bnd h
  obtain ⟨ag, h2, h⟩ := bnd h
  cases ag with
  | true =>
    obtain ⟨n, h3, e⟩ := mp h
    subst e
    refine heapF_ok fun tm fh v hv call yld o h hr ho => ?_
    simp only [evOp, ho, argOf_ok h1 tm, Option.bind_some]
    unfold loadKN onPtr at hv
    unfold loadAt
    split at hv
    · rename_i b g off hq
      obtain ⟨cs, h4, h5⟩ := optF_some hv
      cases h5
      simp only [hq, h2, h3, readF_ok hr h4, Option.bind_some, Option.map_some]
    · rename_i cs hq
      obtain ⟨h4, h5⟩ := ifF_some hv
      cases h5
      rw [lenR_eq] at h4
      simp only [hq, h2, h3, Option.bind_some, h4, Option.map_some, takeR_eq]
    · cases hv
  | false =>
    cases h
    refine heapF_ok fun tm fh v hv call yld o h hr ho => ?_
    simp only [evOp, ho, argOf_ok h1 tm, Option.bind_some]
    unfold loadK1 onPtr at hv
    unfold loadAt
    split at hv
    · rename_i b g off hq
      simp only [hq, h2, cellF_ok hr hv, Option.bind_some, Option.map_some, List.head?_cons]
    · rename_i cs hq
      replace hv : headR cs = some v := hv
      rw [headR_eq] at hv
      simp only [hq, h2, hv, Option.map_some]
    · cases hv
def allCF (cs : List LV) : Bool := List.rec (motive := fun _ => Bool) true (fun a _ ih => Bool.rec (motive := fun _ => Bool) false ih a.isCell) cs
theorem allCF_eq (cs : List LV) : allCF cs = cs.all LV.isCell := by
  induction cs with
  | nil => rfl
  | cons a cs ih =>
    show Bool.rec (motive := fun _ => Bool) false (allCF cs) a.isCell = _
    rw [List.all_cons, ih]
    cases a.isCell <;> rfl
def fhF (x : Option FH) : OR := Option.rec (motive := fun _ => OR) .no (fun h => .ok LV.undef h) x
theorem fhF_ok {x : Option FH} {v : LV} {h : FH} (e : fhF x = .ok v h) : x = some h ∧ v = LV.undef := by cases x with | none => cases e | some y => cases e; exact ⟨rfl, rfl⟩
def storeK (n : Nat) (a x : Arg) : FOp := fun _ _ tm h => onPtr (a.val tm) (fun b g o => ifF (andF (Nat.beq (lenR (x.val tm).cells) n) (allCF (x.val tm).cells)) (fhF (writeF h b g o (x.val tm).cells)) .no) (fun _ => .no) .no
def cStore (P : Program) (t : TypeId) (x y : Operand) : Option FOp := (argOf x).bind fun a => (argOf y).bind fun b => (szOf P t).map fun n => storeK n a b
theorem cStore_ok {t : TypeId} {x y : Operand} {f : FOp} (h : cStore P t x y = some f) : OpR P (.store t x y) f := by
  unfold cStore at h
  obtain ⟨a, h1, h⟩ := bnd h
  obtain ⟨b, h2, h⟩ := bnd h
  obtain ⟨n, h3, e⟩ := mp h
  subst e
  intro cf yf call yld hc hy tm o fh h v fh' ho hr he
  simp only [evOp, ho, argOf_ok h1 tm, argOf_ok h2 tm, Option.bind_some]
  unfold storeK onPtr at he
  split at he
  · rename_i bb g off hq
    obtain ⟨h4, h5⟩ := ifF_ok he
    obtain ⟨h6, rfl⟩ := fhF_ok h5
    obtain ⟨h', h7, h8⟩ := writeF_ok hr h6
    rw [andF_eq, lenR_eq, allCF_eq] at h4
    exact ⟨h', by simp only [storeAt, hq, h3, Option.bind_some, h4, h7, Option.map_some], h8⟩
  · cases he
  · cases he

/-! ### addresses -/
def cFieldAddr (P : Program) (t : TypeId) (x : Operand) (i : Nat) : Option FOp := (argOf x).bind fun a => match P.underlying t with
  | some (.struct fields) => (fields[i]?).bind fun f => (szOf P f.type).bind fun s => match Nat.beq s 0 with
    | true => none
    | false => some (pureF fun tm => onPtr (a.val tm) (fun b g o => some (.ptr b g (Nat.add o f.offset))) (fun cs => ifF (Nat.ble f.offset (lenR cs)) (some (.vptr (dropR f.offset cs))) none) none)
  | _ => none
theorem cFieldAddr_ok {t : TypeId} {x : Operand} {i : Nat} {f : FOp} (h : cFieldAddr P t x i = some f) : OpR P (.fieldAddr t x i) f := by
  unfold cFieldAddr at h
  obtain ⟨a, h1, h⟩ := bnd h
  split at h
  · rename_i fields hu
    obtain ⟨fd, h2, h⟩ := bnd h
    obtain ⟨s, h3, h⟩ := bnd h
    split at h
    · cases h
    · rename_i hs
      cases h
      refine pureF_ok fun tm v hv call yld o h ho => ?_
      simp only [evOp, ho, argOf_ok h1 tm, Option.bind_some, fieldAddrOp, hu, h2, h3, hs]
      unfold onPtr at hv
      split at hv
      · rename_i hq; cases hv; simp only [hq]; rfl
      · rename_i hq
        obtain ⟨h4, h5⟩ := ifF_some hv
        cases h5
        rw [lenR_eq] at h4
        simp only [hq, h4, dropR_eq, Option.map_some]
      · cases hv
  · cases h
def cField (P : Program) (t : TypeId) (x : Operand) (i : Nat) : Option FOp := (argOf x).bind fun a => match P.underlying t with
  | some (.struct fields) => (fields[i]?).bind fun f => (isAggB P f.type).bind fun ag => match ag with
    | true => (szOf P f.type).map fun n => pureF fun tm => onAgg (a.val tm) (fun cs => ifF (Nat.ble (Nat.add f.offset n) (lenR cs)) (some (.agg (takeR n (dropR f.offset cs)))) none) none
    | false => some (pureF fun tm => onAgg (a.val tm) (fun cs => headR (dropR f.offset cs)) none)
  | _ => none
theorem cField_ok {t : TypeId} {x : Operand} {i : Nat} {f : FOp} (h : cField P t x i = some f) : OpR P (.field t x i) f := by
  unfold cField at h
  obtain ⟨a, h1, h⟩ := bnd h
  split at h
  · rename_i fields hu
    obtain ⟨fd, h2, h⟩ := bnd h
    obtain ⟨ag, h3, h⟩ := bnd h
    cases ag with
    | true =>
      obtain ⟨n, h4, e⟩ := mp h
      subst e
      refine pureF_ok fun tm v hv call yld o h ho => ?_
      unfold onAgg at hv
      split at hv
      · rename_i cs hq
        obtain ⟨h5, h6⟩ := ifF_some hv
        cases h6
        rw [lenR_eq] at h5
        have h5' : Nat.ble (fd.offset + n) cs.length = true := h5
        simp only [evOp, ho, argOf_ok h1 tm, Option.bind_some, hu, hq, h2, partAt, h3, h4, h5', Option.map_some, takeR_eq, dropR_eq]
      · cases hv
    | false =>
      cases h
      refine pureF_ok fun tm v hv call yld o h ho => ?_
      unfold onAgg at hv
      split at hv
      · rename_i cs hq
        replace hv : headR (dropR fd.offset cs) = some v := hv
        rw [headR_eq, dropR_eq] at hv
        simp only [evOp, ho, argOf_ok h1 tm, Option.bind_some, hu, hq, h2, partAt, h3, hv, Option.map_some]
      · cases hv
  · cases h
def cIndexAddr (P : Program) (t : TypeId) (x i : Operand) : Option FOp := (argOf x).bind fun a => (argOf i).bind fun j => match P.underlying t with
  | some (.array n e) => (szOf P e).map fun s => pureF fun tm => onNat (j.val tm) (fun i => ifF (Nat.blt i n) (onPtr (a.val tm) (fun b g o => some (.ptr b g (Nat.add o (Nat.mul i s)))) (fun cs => ifF (Nat.ble (Nat.mul i s) (lenR cs)) (some (.vptr (dropR (Nat.mul i s) cs))) none) none) none) none
  | some (.slice e) => (szOf P e).map fun s => pureF fun tm => onNat (j.val tm) (fun i => onSl (a.val tm) (fun b g o n _ es => ifF (andF (Nat.blt i n) (Nat.beq s es)) (some (.ptr b g (Nat.add o (Nat.mul i s)))) none)
      (fun cs n => ifF (andF (Nat.blt i n) (Nat.ble (Nat.mul i s) (lenR cs))) (some (.vptr (dropR (Nat.mul i s) cs))) none) none none) none
  | _ => none
theorem cIndexAddr_ok {t : TypeId} {x i : Operand} {f : FOp} (h : cIndexAddr P t x i = some f) : OpR P (.indexAddr t x i) f := by
  unfold cIndexAddr at h
  obtain ⟨a, h1, h⟩ := bnd h
  obtain ⟨j, h2, h⟩ := bnd h
  split at h
  · rename_i n e hu
    obtain ⟨s, h3, e⟩ := mp h
    subst e
    refine pureF_ok fun tm v hv call yld o h ho => ?_
    obtain ⟨k, h4, h5⟩ := onNat_some hv
    obtain ⟨h6, h7⟩ := ifF_some h5
    unfold onPtr at h7
    split at h7
    · rename_i hq; cases h7; simp only [evOp, ho, argOf_ok h1 tm, argOf_ok h2 tm, Option.bind_some, indexAddrOp, h4, hu, h3, h6, hq, Option.map_some]; rfl
    · rename_i cs hq
      obtain ⟨h8, h9⟩ := ifF_some h7
      cases h9
      rw [lenR_eq] at h8
      have h8' : Nat.ble (k * s) cs.length = true := h8
      simp only [evOp, ho, argOf_ok h1 tm, argOf_ok h2 tm, Option.bind_some, indexAddrOp, h4, hu, h3, h6, hq, h8', Bool.and_self, Option.map_some, dropR_eq]; rfl
    · cases h7
  · rename_i e hu
    obtain ⟨s, h3, e⟩ := mp h
    subst e
    refine pureF_ok fun tm v hv call yld o h ho => ?_
    obtain ⟨k, h4, h5⟩ := onNat_some hv
    unfold onSl at h5
    split at h5
    · rename_i hq
      obtain ⟨h6, h7⟩ := ifF_some h5
      cases h7
      rw [andF_eq] at h6
      simp only [evOp, ho, argOf_ok h1 tm, argOf_ok h2 tm, Option.bind_some, indexAddrOp, h4, hu, h3, h6, hq, Option.map_some]; rfl
    · rename_i cs n hq
      obtain ⟨h6, h7⟩ := ifF_some h5
      cases h7
      rw [andF_eq, lenR_eq] at h6
      have h6' : (Nat.blt k n && Nat.ble (k * s) cs.length) = true := h6
      simp only [evOp, ho, argOf_ok h1 tm, argOf_ok h2 tm, Option.bind_some, indexAddrOp, h4, hu, h3, h6', hq, Option.map_some, dropR_eq]; rfl
    · cases h5
    · cases h5
  · cases h
def cIndex (P : Program) (t : TypeId) (x i : Operand) : Option FOp := (argOf x).bind fun a => (argOf i).bind fun j => match P.underlying t with
  | some .string => some (pureF fun tm => onNat (j.val tm) (fun i => onStr (a.val tm) (fun s => optF (headR (dropR i s)) (fun b => some (.int .u8 (.ofNat b))) none) none) none)
  | some (.array n e) => (szOf P e).bind fun s => (isAggB P e).map fun ag => pureF fun tm => onNat (j.val tm) (fun i => ifF (Nat.blt i n) (onAgg (a.val tm) (fun cs => match ag with
      | true => ifF (Nat.ble (Nat.add (Nat.mul i s) s) (lenR cs)) (some (.agg (takeR s (dropR (Nat.mul i s) cs)))) none
      | false => headR (dropR (Nat.mul i s) cs)) none) none) none
  | _ => some (pureF fun tm => indexOp P t (a.val tm) (j.val tm))
theorem cIndex_ok {t : TypeId} {x i : Operand} {f : FOp} (h : cIndex P t x i = some f) : OpR P (.index t x i) f := by
  unfold cIndex at h
  obtain ⟨a, h1, h⟩ := bnd h
  obtain ⟨j, h2, h⟩ := bnd h
  split at h
  · rename_i hu
    cases h
    refine pureF_ok fun tm v hv call yld o h ho => ?_
    obtain ⟨k, h4, h5⟩ := onNat_some hv
    unfold onStr at h5
    split at h5
    · rename_i s hq
      obtain ⟨b, h6, h7⟩ := optF_some h5
      cases h7
      rw [headR_eq, dropR_eq] at h6
      simp only [evOp, ho, argOf_ok h1 tm, argOf_ok h2 tm, Option.bind_some, indexOp, h4, hu, hq]
      cases hd : s.drop k with
      | nil => rw [hd] at h6; cases h6
      | cons c l => rw [hd] at h6; cases h6; rfl
    · cases h5
  · rename_i n e hu
    obtain ⟨s, h3, h⟩ := bnd h
    obtain ⟨ag, h4, e⟩ := mp h
    subst e
    refine pureF_ok fun tm v hv call yld o h ho => ?_
    obtain ⟨k, h5, h6⟩ := onNat_some hv
    obtain ⟨h7, h8⟩ := ifF_some h6
    dsimp only [onAgg] at h8
    split at h8
    · rename_i cs hq
      cases ag with
      | true =>
        obtain ⟨h9, h10⟩ := ifF_some (show ifF (Nat.ble (Nat.add (Nat.mul k s) s) (lenR cs)) (some (LV.agg (takeR s (dropR (Nat.mul k s) cs)))) none = some v from h8)
        cases h10
        rw [lenR_eq] at h9
        have h9' : Nat.ble (k * s + s) cs.length = true := h9
        simp only [evOp, ho, argOf_ok h1 tm, argOf_ok h2 tm, Option.bind_some, indexOp, h5, hu, hq, h3, h7, partAt, h4, h9', Option.map_some, takeR_eq, dropR_eq]
        rfl
      | false =>
        replace h8 : headR (dropR (k * s) cs) = some v := h8
        rw [headR_eq, dropR_eq] at h8
        simp only [evOp, ho, argOf_ok h1 tm, argOf_ok h2 tm, Option.bind_some, indexOp, h5, hu, hq, h3, h7, partAt, h4, h8, Option.map_some]
    · cases h8
  · cases h
    refine pureF_ok fun tm v hv call yld o h ho => ?_
    simp only [evOp, ho, argOf_ok h1 tm, argOf_ok h2 tm, Option.bind_some, hv, Option.map_some]
end
end
end Go.Ev

namespace Go.Ev
noncomputable section
set_option linter.unusedSimpArgs false
set_option linter.unusedVariables false
section
variable {P : Program}

/-! ### views -/
def viewF (h : FH) (v : LV) : Option (List LV) := match v with
  | .slice b g o n _ es => readF h b g o (Nat.mul n es)
  | .vs cs _ => some cs
  | .nils => some []
  | .str s => some (s.map fun b => .int .u8 (.ofNat b))
  | _ => none
theorem viewF_ok {fh : FH} {h : Heap} (r : HR fh h) {v : LV} {cs : List LV} (e : viewF fh v = some cs) : viewCells h v = some cs := by
  unfold viewF at e
  unfold viewCells
  split at e
  · exact readF_ok r e
  · exact e
  · exact e
  · exact e
  · cases e
def lenLF (v : LV) : Option Nat := match v with
  | .slice _ _ _ n _ _ => some n
  | .vs _ n => some n
  | .nils => some 0
  | .str s => some (lenT s)
  | _ => none
theorem lenLF_eq (v : LV) : lenLF v = lenOf? v := by unfold lenLF lenOf?; cases v <;> simp only [lenT_eq]
def lenSF (v : LV) : Option Nat := match v with
  | .slice _ _ _ n _ _ => some n
  | .vs _ n => some n
  | .nils => some 0
  | _ => none
theorem lenSF_ok {v : LV} {n : Nat} (h : lenSF v = some n) : lenOf? v = some n := by unfold lenSF at h; unfold lenOf?; split at h <;> first | exact h | cases h
def isByteF (v : LV) : Bool := match v with | .int .u8 (.ofNat n) => Nat.blt n 256 | _ => false
def natOfF (v : LV) : Nat := match v with | .int _ (.ofNat n) => n | _ => 0
def allByteF (cs : List LV) : Bool := List.rec (motive := fun _ => Bool) true (fun a _ ih => Bool.rec (motive := fun _ => Bool) false ih (isByteF a)) cs
def mapNF (cs : List LV) : List Nat := List.rec (motive := fun _ => List Nat) [] (fun a _ ih => natOfF a :: ih) cs
theorem bytesF_ok : ∀ (cs : List LV), allByteF cs = true → bytes? cs = some (mapNF cs)
  | [], _ => rfl
  | a :: cs, h => by
    have h' : Bool.rec (motive := fun _ => Bool) false (allByteF cs) (isByteF a) = true := h
    have h1 : isByteF a = true := by cases hb : isByteF a with | true => rfl | false => rw [hb] at h'; cases h'
    rw [h1] at h'
    have ih := bytesF_ok cs h'
    unfold bytes? at ih ⊢
    rw [List.mapM_cons, ih]
    unfold isByteF at h1
    split at h1
    · rename_i n
      simp only [byteOf?, h1, Option.pure_def, Option.bind_eq_bind, Option.bind_some]
      rfl
    · cases h1
def mapBF (s : List Nat) : List LV := List.rec (motive := fun _ => List LV) [] (fun b _ ih => .int .u8 (.ofNat b) :: ih) s
theorem mapBF_eq (s : List Nat) : mapBF s = s.map fun b => .int .u8 (.ofNat b) := by induction s with | nil => rfl | cons a s ih => exact congrArg (_ :: ·) ih

/-! ### new memory -/
def newF (P : Program) (f : T LV → Option New) : FOp := fun _ _ tm h => optF (f tm) (fun nw => HObj.rec (motive := fun _ => OR) (fun cs gen wlo => ifF (andF (Nat.beq gen 0) (Nat.beq wlo 0)) (rowF h cs nw.2) .no) (fun es c => objF h (.map es c) nw.2) .no (fun _ _ => .no) (fun _ => .no) nw.1) .no
theorem newF_ok {op : Op} {f : T LV → Option New} (hf : ∀ tm nw, f tm = some nw → ∀ (call : CallF) (yld : Yld) (o : Oper) (h : Heap), o.op = op → evOp P call yld tm o h = some (putNew h nw)) : OpR P op (newF P f) := by
  intro cf yf call yld hc hy tm o fh h v fh' ho hr he
  obtain ⟨⟨ob, mk⟩, h1, h2⟩ := optF_ok he
  have h3 := hf tm _ h1 call yld o h ho
  cases ob with
  | row cs gen wlo =>
    obtain ⟨h4, h5⟩ := ifF_ok h2
    rw [andF_eq, Bool.and_eq_true] at h4
    have e1 : gen = 0 := Nat.eq_of_beq_eq_true h4.1
    have e2 : wlo = 0 := Nat.eq_of_beq_eq_true h4.2
    subst e1; subst e2
    obtain ⟨rfl, h6⟩ := rowF_ok hr h5
    exact ⟨_, h3, h6⟩
  | map es c =>
    obtain ⟨rfl, h6⟩ := objF_ok hr h2
    exact ⟨_, h3, h6⟩
  | hole => cases h2
  | iter _ _ => cases h2
  | loop _ => cases h2
def partsOf : List (Nat × Operand) → Option (List (Nat × Arg))
  | [] => some []
  | (i, x) :: xs => (argOf x).bind fun a => (partsOf xs).map fun as => (i, a) :: as
def partsF (as : List (Nat × Arg)) (tm : T LV) : List (Nat × LV) := List.rec (motive := fun _ => List (Nat × LV)) [] (fun a _ ih => (a.1, a.2.val tm) :: ih) as
theorem partsOf_ok (tm : T LV) : ∀ {xs : List (Nat × Operand)} {as : List (Nat × Arg)}, partsOf xs = some as → (xs.mapM fun p => (val tm p.2).map fun v => (p.1, v)) = some (partsF as tm)
  | [], as, h => by cases h; rfl
  | (i, x) :: xs, as, h => by
    unfold partsOf at h
    obtain ⟨a, h1, h⟩ := bnd h
    obtain ⟨as', h2, e⟩ := mp h
    subst e
    simp only [List.mapM_cons, argOf_ok h1 tm, partsOf_ok tm h2, Option.pure_def, Option.bind_eq_bind, Option.bind_some, Option.map_some]
    rfl
/-- Filling in: places known, cells put one behind the other. -/
def fillF (places : List (Nat × Nat)) : List (Nat × LV) → List LV → Option (List LV)
  | [], cells => some cells
  | (i, v) :: rest, cells => optF (headR (dropR i places)) (fun p => ifF (andF (Nat.beq (lenR v.cells) p.2) (Nat.ble (Nat.add p.1 p.2) (lenR cells))) (fillF places rest (putR cells p.1 v.cells)) none) none
theorem fillF_ok (places : List (Nat × Nat)) (place : Nat → Option (Nat × Nat)) (hp : ∀ i p, places[i]? = some p → place i = some p) : ∀ (ps : List (Nat × LV)) (cells r : List LV), fillF places ps cells = some r → fillIn place cells ps = some r
  | [], cells, r, h => h
  | (i, v) :: rest, cells, r, h => by
    unfold fillF at h
    obtain ⟨p, h1, h2⟩ := optF_some h
    obtain ⟨h3, h4⟩ := ifF_some h2
    rw [headR_eq, dropR_eq, List.head?_drop] at h1
    have ih := fillF_ok places place hp rest _ _ h4
    unfold fillIn
    rw [hp i p h1]
    obtain ⟨off, size⟩ := p
    rw [andF_eq, lenR_eq, lenR_eq] at h3
    have h3' : (Nat.beq v.cells.length size && Nat.ble (off + size) cells.length) = true := h3
    simp only [h3']
    rw [Bool.and_eq_true] at h3'
    have e1 : v.cells.length = size := Nat.eq_of_beq_eq_true h3'.1
    have e2 : off + size ≤ cells.length := by simpa using h3'.2
    rw [← ih]
    simp only
    rw [putR_eq off cells v.cells (by omega)]
    unfold splice
    rw [List.append_assoc]
def cBuild (P : Program) (t : TypeId) (ps : Array (Nat × Operand)) : Option FOp := (partsOf ps.toList).bind fun as => (zeroLV P t).bind fun z => match P.underlying t with
  | some (.struct fields) => (fields.toList.mapM fun f => (P.info? f.type).map fun i => (f.offset, i.size)).map fun places => pureF fun tm => optF (fillF places (partsF as tm) z.cells) (fun cs => some (.agg cs)) none
  | some (.array n e) => (szOf P e).map fun s => pureF fun tm => optF (fillF ((List.range n).map fun i => (i * s, s)) (partsF as tm) z.cells) (fun cs => some (.agg cs)) none
  | _ => none
theorem cBuild_ok {t : TypeId} {ps : Array (Nat × Operand)} {f : FOp} (h : cBuild P t ps = some f) : OpR P (.build t ps) f := by
  unfold cBuild at h
  obtain ⟨as, h1, h⟩ := bnd h
  obtain ⟨z, h2, h⟩ := bnd h
  split at h
  · rename_i fields hu
    obtain ⟨places, h3, e⟩ := mp h
    subst e
    refine pureF_ok fun tm v hv call yld o h ho => ?_
    obtain ⟨cs, h4, h5⟩ := optF_some hv
    cases h5
    have := fillF_ok places (fun i => places[i]?) (fun i p q => q) _ _ _ h4
    simp only [evOp, ho, parts, partsOf_ok tm h1, Option.bind_some, buildAt, h2, hu, h3, this, Option.map_some]
  · rename_i n e hu
    obtain ⟨s, h3, e⟩ := mp h
    subst e
    refine pureF_ok fun tm v hv call yld o h ho => ?_
    obtain ⟨cs, h4, h5⟩ := optF_some hv
    cases h5
    have := fillF_ok _ (fun i => some (i * s, s)) (fun i p q => by
      rw [List.getElem?_map] at q
      obtain ⟨j, hj, rfl⟩ := mp q
      have : j = i := by
        by_cases hlt : i < n
        · simp [hlt] at hj; exact hj.symm
        · rw [List.getElem?_eq_none (by simp; omega)] at hj; cases hj
      rw [this]) _ _ _ h4
    simp only [evOp, ho, parts, partsOf_ok tm h1, Option.bind_some, buildAt, h2, hu, h3, this, Option.map_some]
  · cases h
def cBuildSlice (P : Program) (t : TypeId) (n : Nat) (ps : Array (Nat × Operand)) : Option FOp := (partsOf ps.toList).bind fun as => match P.underlying t with
  | some (.slice e) => (szOf P e).bind fun s => match Nat.beq s 0 || Nat.blt 16777216 (n * s) with
    | true => none
    | false => (zerosOf P e s n).map fun zs => newF P fun tm => optF (fillF ((List.range n).map fun i => (i * s, s)) (partsF as tm) zs) (fun cs => some (.row cs 0 0, fun b => .slice b 0 0 n (some n) s)) none
  | _ => none
theorem cBuildSlice_ok {t : TypeId} {n : Nat} {ps : Array (Nat × Operand)} {f : FOp} (h : cBuildSlice P t n ps = some f) : OpR P (.buildSlice t n ps) f := by
  unfold cBuildSlice at h
  obtain ⟨as, h1, h⟩ := bnd h
  split at h
  · rename_i e hu
    obtain ⟨s, h2, h⟩ := bnd h
    split at h
    · cases h
    · rename_i hs
      obtain ⟨zs, h3, e⟩ := mp h
      subst e
      refine newF_ok fun tm nw hv call yld o h ho => ?_
      obtain ⟨cs, h4, h5⟩ := optF_some hv
      cases h5
      have := fillF_ok _ (fun i => some (i * s, s)) (fun i p q => by
        rw [List.getElem?_map] at q
        obtain ⟨j, hj, rfl⟩ := mp q
        have : j = i := by
          by_cases hlt : i < n
          · simp [hlt] at hj; exact hj.symm
          · rw [List.getElem?_eq_none (by simp; omega)] at hj; cases hj
        rw [this]) _ _ _ h4
      simp only [evOp, ho, evA, parts, partsOf_ok tm h1, Option.bind_some, buildSliceA, hu, h2, hs, h3, this, Option.map_some]
  · cases h
def repF (z : List LV) (n : Nat) : List LV := Nat.rec (motive := fun _ => List LV) [] (fun _ ih => appR z ih) n
theorem repF_eq (z : List LV) : ∀ n, repF z n = repeatCells z n
  | 0 => rfl
  | n + 1 => by show appR z (repF z n) = z ++ repeatCells z n; rw [appR_eq, repF_eq]
def zerosFF (z : LV) (s n : Nat) : Option (List LV) := Nat.rec (motive := fun _ => Option (List LV)) (some []) (fun m _ => ifF (Nat.beq (lenR z.cells) s) (some (repF z.cells (Nat.succ m))) none) n
theorem zerosFF_ok {e : TypeId} {z : LV} (hz : zeroLV P e = some z) {s n : Nat} {cs : List LV} (h : zerosFF z s n = some cs) : zerosOf P e s n = some cs := by
  cases n with
  | zero => exact h
  | succ n =>
    obtain ⟨h1, h2⟩ := ifF_some (show ifF (Nat.beq (lenR z.cells) s) (some (repF z.cells (n + 1))) none = some cs from h)
    rw [lenR_eq] at h1
    rw [repF_eq] at h2
    simp only [zerosOf, hz, Option.bind_some, h1]
    exact h2
def cMakeSlice (P : Program) (t : TypeId) (l c : Operand) : Option FOp := (argOf l).bind fun a => (argOf c).bind fun b => match P.underlying t with
  | some (.slice e) => (szOf P e).bind fun s => (bytesOfT P e).bind fun by_ => (zeroLV P e).map fun z => newF P fun tm => onNat (a.val tm) (fun l => onNat (b.val tm) (fun c =>
      ifF (andF (Nat.ble l c) (andF (notF (Nat.beq s 0)) (andF (Nat.ble (Nat.mul c by_) 140737488355328) (Nat.blt c 9223372036854775808)))) (optF (zerosFF z s c) (fun zs => some (.row zs 0 0, fun b => .slice b 0 0 l (some c) s)) none) none) none) none
  | _ => none
theorem cMakeSlice_ok {t : TypeId} {l c : Operand} {f : FOp} (h : cMakeSlice P t l c = some f) : OpR P (.makeSlice t l c) f := by
  unfold cMakeSlice at h
  obtain ⟨a, h1, h⟩ := bnd h
  obtain ⟨b, h2, h⟩ := bnd h
  split at h
  · rename_i e hu
    obtain ⟨s, h3, h⟩ := bnd h
    obtain ⟨by_, h4, h⟩ := bnd h
    obtain ⟨z, h5, e⟩ := mp h
    subst e
    refine newF_ok fun tm nw hv call yld o h ho => ?_
    obtain ⟨ll, h6, hv⟩ := onNat_some hv
    obtain ⟨cc, h7, hv⟩ := onNat_some hv
    obtain ⟨h8, hv⟩ := ifF_some hv
    obtain ⟨zs, h9, hv⟩ := optF_some hv
    cases hv
    rw [andF_eq, andF_eq, andF_eq, notF_eq] at h8
    have h8' : (Nat.ble ll cc && !Nat.beq s 0 && Nat.ble (cc * by_) 140737488355328 && Nat.blt cc 9223372036854775808) = true := by
      simp only [Bool.and_assoc]; exact h8
    simp only [evOp, ho, evA, argOf_ok h1 tm, argOf_ok h2 tm, Option.bind_some, makeSliceA, hu, h3, h4, h6, h7, h8', zerosFF_ok h5 h9, Option.map_some]
  · cases h

/-! ### slices of slices -/
def oargOf : Option Operand → Option (Option Arg)
  | none => some none
  | some x => (argOf x).map some
def oargF (a : Option Arg) (tm : T LV) : Option LV := Option.rec (motive := fun _ => Option LV) none (fun a => some (a.val tm)) a
theorem oargOf_ok {x : Option Operand} {a : Option Arg} (h : oargOf x = some a) (tm : T LV) : oval tm x = some (oargF a tm) := by
  cases x with
  | none => cases h; rfl
  | some x =>
    obtain ⟨b, h1, e⟩ := mp h
    subst e
    simp only [oval, argOf_ok h1 tm, Option.map_some]
    rfl
def sliceGo (b g o : Nat) (len : Nat) (cap : Option Nat) (es : Nat) (lo hi mx : Option LV) (least : Nat) : Option LV :=
  optF (bounds3 len least lo hi mx) (fun q => some (.slice b g (Nat.add o (Nat.mul q.1 es)) (Nat.sub q.2.1 q.1) (capOf cap q.2.2 q.1) es)) none
def sliceSl (s : Nat) (x : LV) (lo hi mx : Option LV) (h : FH) : Option LV :=
  onSl x (fun b g o len cap es => ifF (andF (Nat.beq s es) (notF (Nat.beq es 0))) (Option.rec (motive := fun _ => Option LV) (fRow h b (fun _ rl gen _ => sliceGo b g o len cap es lo hi mx (ifF (Nat.beq g gen) (Nat.max len (Nat.div (Nat.sub rl o) es)) len)) none)
        (fun c => sliceGo b g o len cap es lo hi mx c) cap) none)
      (fun cs len => optF (bounds3 len len lo hi mx) (fun q => some (.vs (dropR (Nat.mul q.1 s) (takeR (Nat.mul q.2.1 s) cs)) (Nat.sub q.2.1 q.1))) none)
      (optF (bounds3 0 0 lo hi mx) (fun _ => some .nils) none) none
def sliceStr (x : LV) (lo hi : Option LV) : Option LV := onStr x (fun l => optF (bounds3 (lenT l) (lenT l) lo hi none) (fun q => some (.str (dropR q.1 (takeR q.2.1 l)))) none) none
def sliceArr (s n : Nat) (x : LV) (lo hi mx : Option LV) (h : FH) : Option LV :=
  onPtr x (fun b g o => ifF (Nat.beq s 0) none (fRow h b (fun _ len gen _ => ifF (andF (Nat.beq g gen) (Nat.ble (Nat.add o (Nat.mul n s)) len)) (optF (bounds3 n n lo hi mx) (fun q => some (.slice b g (Nat.add o (Nat.mul q.1 s)) (Nat.sub q.2.1 q.1) (capOf (some n) q.2.2 q.1) s)) none) none) none))
      (fun cs => ifF (Nat.ble (Nat.mul n s) (lenR cs)) (optF (bounds3 n n lo hi mx) (fun q => some (.vs (dropR (Nat.mul q.1 s) (takeR (Nat.mul q.2.1 s) cs)) (Nat.sub q.2.1 q.1))) none) none) none
theorem sliceSl_ok {fh : FH} {h : Heap} (r : HR fh h) {t e : TypeId} {s : Nat} (hu : P.underlying t = some (.slice e)) (hs : szOf P e = some s) {x v : LV} {lo hi mx : Option LV} (he : sliceSl s x lo hi mx fh = some v) : sliceAtOp P t x lo hi mx h = some v := by
  unfold sliceSl onSl at he
  unfold sliceAtOp
  rw [hu]
  split at he
  · rename_i b g o len cap es
    obtain ⟨h1, h2⟩ := ifF_some he
    rw [andF_eq, notF_eq] at h1
    simp only [hs, Option.bind_some, h1]
    have go : ∀ least, sliceGo b g o len cap es lo hi mx least = some v → (bounds3 len least lo hi mx).map (fun (lo, hi, m) => LV.slice b g (o + lo * es) (hi - lo) (capOf cap m lo) es) = some v := by
      intro least hg
      unfold sliceGo at hg
      obtain ⟨q, h3, h4⟩ := optF_some hg
      rw [h3]
      exact h4
    cases cap with
    | some c => exact go c h2
    | none =>
      obtain ⟨ch, rl, gen, wlo, h3, h4⟩ := fRow_some h2
      obtain ⟨cs, h5, h6, h7⟩ := r.row h3
      have := go _ h4
      simp only [leastCap, h5]
      rw [← this, h7]
      cases Nat.beq g gen <;> rfl
  · rename_i cs len
    obtain ⟨q, h3, h4⟩ := optF_some he
    simp only [hs, Option.bind_some, h3, Option.map_some]
    rw [← h4, dropR_eq, takeR_eq]
    rfl
  · obtain ⟨q, h3, h4⟩ := optF_some he
    simp only [hs, Option.bind_some, h3, Option.map_some]
    exact h4
  · cases he
theorem sliceStr_ok {h : Heap} {t : TypeId} (hu : P.underlying t = some .string) {x v : LV} {lo hi : Option LV} (he : sliceStr x lo hi = some v) : sliceAtOp P t x lo hi none h = some v := by
  unfold sliceStr onStr at he
  unfold sliceAtOp
  rw [hu]
  split at he
  · rename_i l
    obtain ⟨q, h3, h4⟩ := optF_some he
    rw [lenT_eq] at h3
    simp only [h3, Option.map_some]
    rw [← h4, dropR_eq, takeR_eq]
  · cases he
theorem sliceArr_ok {fh : FH} {h : Heap} (r : HR fh h) {t e : TypeId} {s n : Nat} (hu : P.underlying t = some (.array n e)) (hs : szOf P e = some s) {x v : LV} {lo hi mx : Option LV} (he : sliceArr s n x lo hi mx fh = some v) : sliceAtOp P t x lo hi mx h = some v := by
  unfold sliceArr onPtr at he
  unfold sliceAtOp
  rw [hu]
  split at he
  · rename_i b g o
    cases h0 : Nat.beq s 0 with
    | true => rw [h0] at he; cases he
    | false =>
      rw [h0] at he
      obtain ⟨ch, len, gen, wlo, h3, h4⟩ := fRow_some (show fRow fh b _ none = some v from he)
      obtain ⟨cs, h5, h6, h7⟩ := r.row h3
      obtain ⟨h8, h9⟩ := ifF_some h4
      obtain ⟨q, h10, h11⟩ := optF_some h9
      rw [andF_eq, h7] at h8
      have h8' : (Nat.beq g gen && Nat.ble (o + n * s) cs.length) = true := h8
      simp only [hs, Option.bind_some, h0, h5, h8', h10, Option.map_some]
      exact h11
  · rename_i cs
    obtain ⟨h8, h9⟩ := ifF_some he
    obtain ⟨q, h10, h11⟩ := optF_some h9
    rw [lenR_eq] at h8
    have h8' : Nat.ble (n * s) cs.length = true := h8
    simp only [hs, Option.bind_some, h8', h10, Option.map_some]
    rw [← h11, dropR_eq, takeR_eq]
    rfl
  · cases he
def cSlice (P : Program) (t : TypeId) (x : Operand) (lo hi mx : Option Operand) : Option FOp := (argOf x).bind fun a => (oargOf lo).bind fun l => (oargOf hi).bind fun k => (oargOf mx).bind fun m => match P.underlying t with
  | some .string => (match m with | none => some (pureF fun tm => sliceStr (a.val tm) (oargF l tm) (oargF k tm)) | some _ => none)
  | some (.slice e) => (szOf P e).map fun s => heapF fun tm h => sliceSl s (a.val tm) (oargF l tm) (oargF k tm) (oargF m tm) h
  | some (.array n e) => (szOf P e).map fun s => heapF fun tm h => sliceArr s n (a.val tm) (oargF l tm) (oargF k tm) (oargF m tm) h
  | _ => none
theorem cSlice_ok {t : TypeId} {x : Operand} {lo hi mx : Option Operand} {f : FOp} (h : cSlice P t x lo hi mx = some f) : OpR P (.slice t x lo hi mx) f := by
  unfold cSlice at h
  obtain ⟨a, h1, h⟩ := bnd h
  obtain ⟨l, h2, h⟩ := bnd h
  obtain ⟨k, h3, h⟩ := bnd h
  obtain ⟨m, h4, h⟩ := bnd h
  split at h
  · rename_i hu
    cases m with
    | some _ => cases h
    | none =>
      cases h
      refine pureF_ok fun tm v hv call yld o h ho => ?_
      have := sliceStr_ok (h := h) hu hv
      simp only [evOp, ho, argOf_ok h1 tm, oargOf_ok h2 tm, oargOf_ok h3 tm, oargOf_ok h4 tm, Option.bind_some]
      have e : oargF none tm = none := rfl
      rw [e, this]
      rfl
  · rename_i e hu
    obtain ⟨s, h5, e⟩ := mp h
    subst e
    refine heapF_ok fun tm fh v hv call yld o h hr ho => ?_
    simp only [evOp, ho, argOf_ok h1 tm, oargOf_ok h2 tm, oargOf_ok h3 tm, oargOf_ok h4 tm, Option.bind_some, sliceSl_ok hr hu h5 hv, Option.map_some]
  · rename_i n e hu
    obtain ⟨s, h5, e⟩ := mp h
    subst e
    refine heapF_ok fun tm fh v hv call yld o h hr ho => ?_
    simp only [evOp, ho, argOf_ok h1 tm, oargOf_ok h2 tm, oargOf_ok h3 tm, oargOf_ok h4 tm, Option.bind_some, sliceArr_ok hr hu h5 hv, Option.map_some]
  · cases h

/-! ### conversions -/
def cConv (P : Program) (s d : TypeId) (x : Operand) : Option FOp := (argOf x).bind fun a => match P.underlying s, P.underlying d with
  | some (.slice e), some .string => (match P.underlying e with
    | some (.int .u8) => some (heapF fun tm h => optF (lenSF (a.val tm)) (fun n => optF (viewF h (a.val tm)) (fun cs => ifF (andF (Nat.beq (lenT cs) n) (allByteF cs)) (some (.str (mapNF cs))) none) none) none)
    | _ => none)
  | some .string, some (.slice e) => (match P.underlying e with
    | some (.int .u8) => some fun _ _ tm h => onStr (a.val tm) (fun s => rowF h (mapBF s) (fun b => .slice b 0 0 (lenT s) none 1)) .no
    | _ => none)
  | some _, some (.int k) => some (pureF fun tm => onInt (a.val tm) (fun _ n => some (.int k (wrapF k n))) none)
  | some _, some .string => some (pureF fun tm => onStr (a.val tm) (fun s => some (.str s)) none)
  | _, _ => none
theorem cConv_ok {s d : TypeId} {x : Operand} {f : FOp} (h : cConv P s d x = some f) : OpR P (.convert s d x) f := by
  unfold cConv at h
  obtain ⟨a, h1, h⟩ := bnd h
  split at h
  · rename_i e hs hd
    split at h
    · rename_i he
      cases h
      refine heapF_ok fun tm fh v hv call yld o h hr ho => ?_
      obtain ⟨n, h2, hv⟩ := optF_some hv
      obtain ⟨cs, h3, hv⟩ := optF_some hv
      obtain ⟨h4, hv⟩ := ifF_some hv
      cases hv
      rw [andF_eq, Bool.and_eq_true, lenT_eq] at h4
      have h2' := lenSF_ok h2
      have h5 := viewF_ok hr h3
      have h6 := bytesF_ok cs h4.2
      simp only [evOp, ho, argOf_ok h1 tm, Option.bind_some]
      unfold convertE
      rw [hs, hd]
      cases hx : a.val tm with
      | str l => rw [hx] at h2; cases h2
      | int k n => rw [hx] at h2; cases h2
      | bool _ => rw [hx] at h2; cases h2
      | nilp => rw [hx] at h2; cases h2
      | ptr _ _ _ => rw [hx] at h2; cases h2
      | vptr _ => rw [hx] at h2; cases h2
      | nils => rw [hx] at h2' h5; simp only [he, h2', h5, h4.1, h6, Option.bind_some, Option.map_some]
      | slice _ _ _ _ _ _ => rw [hx] at h2' h5; simp only [he, h2', h5, h4.1, h6, Option.bind_some, Option.map_some]
      | vs _ _ => rw [hx] at h2' h5; simp only [he, h2', h5, h4.1, h6, Option.bind_some, Option.map_some]
      | nilm => rw [hx] at h2; cases h2
      | map _ => rw [hx] at h2; cases h2
      | fn _ _ _ => rw [hx] at h2; cases h2
      | yld _ => rw [hx] at h2; cases h2
      | nilf => rw [hx] at h2; cases h2
      | iface _ _ => rw [hx] at h2; cases h2
      | nili => rw [hx] at h2; cases h2
      | agg _ => rw [hx] at h2; cases h2
      | tuple _ => rw [hx] at h2; cases h2
      | anyb => rw [hx] at h2; cases h2
    · cases h
  · rename_i e hs hd
    split at h
    · rename_i he
      cases h
      intro cf yf call yld hc hy tm o fh h v fh' ho hr hv
      change onStr (a.val tm) (fun s => rowF fh (mapBF s) (fun b => .slice b 0 0 (lenT s) none 1)) .no = .ok v fh' at hv
      unfold onStr at hv
      split at hv
      · rename_i s hq
        obtain ⟨rfl, h6⟩ := rowF_ok hr hv
        rw [mapBF_eq] at h6
        refine ⟨_, ?_, h6⟩
        simp only [evOp, ho, argOf_ok h1 tm, Option.bind_some]
        unfold convertE
        rw [hs, hd, hq]
        simp only [he, lenT_eq]
        rfl
      · cases hv
    · cases h
  · rename_i ds k hs hd
    cases h
    refine pureF_ok fun tm v hv call yld o h ho => ?_
    unfold onInt at hv
    split at hv
    · rename_i k' n hq
      cases hv
      simp only [evOp, ho, argOf_ok h1 tm, Option.bind_some]
      unfold convertE
      rw [hs, hd, hq, wrapF_eq]
    · cases hv
  · rename_i ds hne hs hn1
    cases h
    refine pureF_ok fun tm v hv call yld o h ho => ?_
    unfold onStr at hv
    split at hv
    · rename_i n hq
      cases hv
      simp only [evOp, ho, argOf_ok h1 tm, Option.bind_some]
      unfold convertE
      rw [hs, hn1, hq]
    · cases hv
  · cases h
end
end
end Go.Ev

namespace Go.Ev
noncomputable section
set_option linter.unusedSimpArgs false
set_option linter.unusedVariables false
section
variable {P : Program}

/-! ### append and copy -/
def freshF (h : FH) (cs : List LV) (n es : Nat) : OR := rowF h cs (fun b => .slice b 0 0 n none es)
/-- What is appended, by its length and cells. -/
def appGo (es : Nat) (n : Nat) (s : LV) (m : Nat) (new : List LV) (h : FH) : OR :=
  Nat.rec (motive := fun _ => OR) (onStr s (fun _ => .no) (.ok s h)) (fun _ _ =>
    onSl s (fun b g o _ cap es' => ifF (Nat.beq es es') (Option.rec (motive := fun _ => OR)
        (fRow h b (fun ch len gen wlo => Bool.rec (motive := fun _ => OR)
            (ifF (andF (hiF g gen wlo o (Nat.mul n es)) (Nat.ble (Nat.add o (Nat.mul n es)) len))
              (.ok (.slice b (Nat.succ gen) o (Nat.add n m) none es) ⟨T.set h.objs b (.row (Bool.rec (motive := fun _ => Ch) (ofL (appR (readC ch (Nat.succ (Nat.div (Nat.add o (Nat.mul n es)) 16)) 0 0 (Nat.add o (Nat.mul n es))) new))
                  (appC (Nat.succ (Nat.div (Nat.add (lenR new) (Nat.mod len 16)) 16)) (Nat.div len 16) (Nat.mod len 16) new ch) (Nat.beq (Nat.add o (Nat.mul n es)) len)) (Nat.add (Nat.add o (Nat.mul n es)) (lenR new)) (Nat.succ gen)
                (Nat.min (Bool.rec (motive := fun _ => Nat) wlo len (Nat.beq gen 0)) (Nat.add o (Nat.mul n es)))), h.next⟩) .no)
            (optF (writeF h b g (Nat.add o (Nat.mul n es)) new) (fun h => .ok (.slice b g o (Nat.add n m) none es) h) .no)
            (andF (Nat.beq g gen) (Nat.ble (Nat.add o (Nat.mul (Nat.add n m) es)) len))) .no)
        (fun c => Bool.rec (motive := fun _ => OR) (optF (readF h b g o (Nat.mul n es)) (fun old => freshF h (appR old new) (Nat.add n m) es) .no)
          (optF (writeF h b g (Nat.add o (Nat.mul n es)) new) (fun h => .ok (.slice b g o (Nat.add n m) (some c) es) h) .no) (Nat.ble (Nat.add n m) c)) cap) .no)
      (fun _ _ => .no) (freshF h new m es) .no) m
def appendedF (z : LV) (es : Nat) (zs : Bool) (x : LV) (h : FH) : Option (Nat × List LV) :=
  Bool.rec (motive := fun _ => Option (Nat × List LV))
    (optF (lenLF x) (fun m => optF (viewF h x) (fun cs => ifF (Nat.beq (lenT cs) (Nat.mul m es)) (some (m, cs)) none) none) none)
    (onNat x (fun m => ifF (Nat.ble m 1048576) (optF (zerosFF z es m) (fun zs => some (m, zs)) none) none) none) zs
def appF (z : LV) (es by_ : Nat) (zs : Bool) (s x : LV) (h : FH) : OR :=
  optF (lenLF s) (fun n => optF (appendedF z es zs x h) (fun q =>
    ifF (andF (notF (Nat.beq es 0)) (andF (Nat.ble (Nat.mul (Nat.add n q.1) by_) maxBytes) (andF (Nat.ble (Nat.add n q.1) maxBytes) (allCF q.2)))) (appGo es n s q.1 q.2 h) .no) .no) .no
theorem appGo_ok {fh fh' : FH} {h : Heap} (r : HR fh h) {t e : TypeId} {t2 : Option TypeId} {es by_ n m : Nat} {zs : Bool} {s x v z : LV} {new : List LV} (hu : P.underlying t = some (.slice e)) (h1 : szOf P e = some es) (h2 : bytesOfT P e = some by_) (h3 : zerosB P t2 = some zs)
    (hz : zeroLV P e = some z) (hzl : Nat.beq z.cells.length es = true) (h4 : lenOf? s = some n) (h5 : appended P e es zs x h = some (m, new)) (h6 : (!Nat.beq es 0 && Nat.ble ((n + m) * by_) maxBytes && Nat.ble (n + m) maxBytes && new.all LV.isCell) = true)
    (he : appGo es n s m new fh = .ok v fh') : ∃ h', appendE P t t2 s x h = some (v, h') ∧ HR fh' h' := by
  have fresh : ∀ {cs : List LV} {k : Nat}, freshF fh cs k es = .ok v fh' → ∃ h', freshRow P e es k cs h = some (v, h') ∧ HR fh' h' := by
    intro cs k hf
    obtain ⟨rfl, h7⟩ := rowF_ok r hf
    refine ⟨_, ?_, h7⟩
    simp only [freshRow, hz, Option.bind_some, hzl]
    rfl
  unfold appendE
  simp only [hu, h1, h2, h3, h4, h5, Option.bind_some, h6]
  cases m with
  | zero =>
    have he' : onStr s (fun _ => OR.no) (.ok s fh) = .ok v fh' := he
    cases s with
    | str l => cases he'
    | _ => cases he'; exact ⟨h, rfl, r⟩
  | succ m =>
    change onSl s _ _ _ _ = _ at he
    unfold onSl at he
    split at he
    · rename_i b g o len cap es'
      obtain ⟨h7, h8⟩ := ifF_ok he
      simp only [h7]
      cases cap with
      | some c =>
        change Bool.rec (motive := fun _ => OR) (optF (readF fh b g o (n * es)) (fun old => freshF fh (appR old new) (n + (m + 1)) es) .no) (optF (writeF fh b g (o + n * es) new) (fun h => .ok (.slice b g o (n + (m + 1)) (some c) es) h) .no) (Nat.ble (n + (m + 1)) c) = _ at h8
        cases hc : Nat.ble (n + (m + 1)) c with
        | true =>
          rw [hc] at h8
          obtain ⟨h9, h10, h11⟩ := optF_ok h8
          obtain ⟨h', h12, h13⟩ := writeF_ok r h10
          cases h11
          exact ⟨h', by simp only [hc, h12, Option.map_some], h13⟩
        | false =>
          rw [hc] at h8
          obtain ⟨old, h10, h11⟩ := optF_ok h8
          rw [appR_eq] at h11
          obtain ⟨h', h12, h13⟩ := fresh h11
          exact ⟨h', by simp only [hc, readF_ok r h10, Option.bind_some]; exact h12, h13⟩
      | none =>
        obtain ⟨ch, rl, gen, wlo, h9, h10⟩ := fRow_ok h8
        obtain ⟨cs, h11, h12, rfl⟩ := r.row h9
        simp only [h11]
        change Bool.rec (motive := fun _ => OR) _ _ (andF (Nat.beq g gen) (Nat.ble (o + (n + (m + 1)) * es) cs.length)) = _ at h10
        cases hc : (Nat.beq g gen && Nat.ble (o + (n + (m + 1)) * es) cs.length) with
        | true =>
          have hc' : andF (Nat.beq g gen) (Nat.ble (o + (n + (m + 1)) * es) cs.length) = true := by rw [andF_eq]; exact hc
          rw [hc'] at h10
          obtain ⟨h14, h15, h16⟩ := optF_ok h10
          obtain ⟨h', h17, h18⟩ := writeF_ok r h15
          cases h16
          have h17' : writeN h b g (o + n * es) new = some h' := h17
          exact ⟨h', by simp only [hc, h17', Option.map_some]; rfl, h18⟩
        | false =>
          have hc' : andF (Nat.beq g gen) (Nat.ble (o + (n + (m + 1)) * es) cs.length) = false := by rw [andF_eq]; exact hc
          rw [hc'] at h10
          obtain ⟨h14, h15⟩ := ifF_ok h10
          cases h15
          rw [andF_eq, hiF_eq] at h14
          have h14' : (isHi g gen wlo o (n * es) && Nat.ble (o + n * es) cs.length) = true := h14
          have hle : o + n * es ≤ cs.length := by rw [Bool.and_eq_true] at h14'; simpa using h14'.2
          refine ⟨h.set b (.row (cs.take (o + n * es) ++ new) (gen + 1) (Nat.min (match Nat.beq gen 0 with | true => cs.length | false => wlo) (o + n * es))), ?_, ?_⟩
          · have : readN h b g o (n * es) = some ((cs.drop o).take (n * es)) := by
              unfold readN
              rw [h11]
              simp only [h14']
            simp only [hc, this, Option.bind_some, hz, hzl]
            rfl
          · refine r.set b ⟨?_, ?_, rfl, ?_⟩
            · cases hq : Nat.beq (Nat.add o (Nat.mul n es)) cs.length with
              | true =>
                have e1 : o + n * es = cs.length := Nat.eq_of_beq_eq_true hq
                rw [e1, List.take_length]
                show Rep (appC _ _ _ new ch) _
                refine appC_eq _ _ _ new cs ch h12 (Nat.div_add_mod cs.length 16).symm (Nat.mod_lt _ (by omega)) ?_
                rw [lenR_eq]
                show new.length + cs.length % 16 ≤ 16 * ((new.length + cs.length % 16) / 16 + 1)
                omega
              | false =>
                show Rep (ofL (appR (readC ch ((o + n * es) / 16 + 1) 0 0 (o + n * es)) new)) _
                rw [appR_eq, readC_eq h12 _ _ _ _ (by omega) (by omega) (by omega)]
                exact ofL_rep _
            · rw [lenR_eq, List.length_append, List.length_take]
              show o + n * es + new.length = _
              omega
            · cases Nat.beq gen 0 <;> rfl
    · cases he
    · exact fresh he
    · cases he
theorem appendedF_ok {fh : FH} {h : Heap} (r : HR fh h) {e : TypeId} {es m : Nat} {zs : Bool} {x z : LV} {new : List LV} (hz : zeroLV P e = some z) (he : appendedF z es zs x fh = some (m, new)) : appended P e es zs x h = some (m, new) := by
  unfold appended
  cases zs with
  | true =>
    change onNat x _ none = _ at he
    obtain ⟨k, h1, h2⟩ := onNat_some he
    obtain ⟨h3, h4⟩ := ifF_some h2
    obtain ⟨zs, h5, h6⟩ := optF_some h4
    cases h6
    unfold asNat? at h1
    split at h1
    · cases h1
      simp only [h3, zerosFF_ok hz h5, Option.map_some]
    · cases h1
  | false =>
    change optF (lenLF x) _ none = _ at he
    obtain ⟨k, h1, h2⟩ := optF_some he
    obtain ⟨cs, h3, h4⟩ := optF_some h2
    obtain ⟨h5, h6⟩ := ifF_some h4
    cases h6
    rw [lenLF_eq] at h1
    rw [lenT_eq] at h5
    have h5' : Nat.beq new.length (m * es) = true := h5
    simp only [h1, viewF_ok r h3, Option.bind_some, h5']
theorem appF_ok {fh fh' : FH} {h : Heap} (r : HR fh h) {t e : TypeId} {t2 : Option TypeId} {es by_ : Nat} {zs : Bool} {s x v z : LV} (hu : P.underlying t = some (.slice e)) (h1 : szOf P e = some es) (h2 : bytesOfT P e = some by_) (h3 : zerosB P t2 = some zs)
    (hz : zeroLV P e = some z) (hzl : Nat.beq z.cells.length es = true) (he : appF z es by_ zs s x fh = .ok v fh') : ∃ h', appendE P t t2 s x h = some (v, h') ∧ HR fh' h' := by
  obtain ⟨n, h4, he⟩ := optF_ok he
  obtain ⟨⟨m, new⟩, h5, he⟩ := optF_ok he
  obtain ⟨h6, he⟩ := ifF_ok he
  rw [lenLF_eq] at h4
  rw [andF_eq, andF_eq, andF_eq, notF_eq, allCF_eq] at h6
  exact appGo_ok r hu h1 h2 h3 hz hzl h4 (appendedF_ok r hz h5) (by simp only [Bool.and_assoc]; exact h6) he
def copyF (es : Nat) (d s : LV) (h : FH) : OR :=
  optF (lenLF d) (fun n => optF (lenLF s) (fun m => optF (viewF h s) (fun cs => onSl d
      (fun b g o _ _ es' => ifF (andF (Nat.beq es es') (andF (Nat.beq (lenT cs) (Nat.mul m es)) (allCF cs)))
        (Nat.rec (motive := fun _ => OR) (.ok (.int .i64 0) h) (fun k _ => optF (writeF h b g o (takeR (Nat.mul (Nat.succ k) es) cs)) (fun h => .ok (.int .i64 (.ofNat (Nat.succ k))) h) .no) (Nat.min m n)) .no)
      (fun _ _ => .no) (.ok (.int .i64 0) h) .no) .no) .no) .no
theorem copyF_ok {fh fh' : FH} {h : Heap} (r : HR fh h) {t e : TypeId} {es : Nat} {d s v : LV} (hu : P.underlying t = some (.slice e)) (h1 : szOf P e = some es) (he : copyF es d s fh = .ok v fh') : ∃ h', copyE P t d s h = some (v, h') ∧ HR fh' h' := by
  obtain ⟨n, h2, he⟩ := optF_ok he
  obtain ⟨m, h3, he⟩ := optF_ok he
  obtain ⟨cs, h4, he⟩ := optF_ok he
  rw [lenLF_eq] at h2 h3
  unfold copyE
  simp only [hu, h1, h2, h3, viewF_ok r h4, Option.bind_some]
  unfold onSl at he
  split at he
  · rename_i b g o len cap es' _ _ _
    obtain ⟨h5, he⟩ := ifF_ok he
    rw [andF_eq, andF_eq, lenT_eq, allCF_eq] at h5
    have h5' : (Nat.beq es es' && Nat.beq cs.length (m * es) && cs.all LV.isCell) = true := by simp only [Bool.and_assoc]; exact h5
    simp only [h5']
    cases hk : Nat.min m n with
    | zero => rw [hk] at he; cases he; exact ⟨h, rfl, r⟩
    | succ k =>
      rw [hk] at he
      obtain ⟨h6, h7, h8⟩ := optF_ok he
      obtain ⟨h', h9, h10⟩ := writeF_ok r h7
      cases h8
      rw [takeR_eq] at h9
      have h9' : writeN h b g o (cs.take ((k + 1) * es)) = some h' := h9
      exact ⟨h', by simp only [h9', Option.map_some], h10⟩
  · cases he
  · cases he
    exact ⟨h, rfl, r⟩
  · cases he

/-! ### maps -/
def onMap {α : Type} (v : LV) (f : Nat → α) (d : α) : α := match v with | .map b => f b | _ => d
def one (b : Nat) (o : HObj) : Heap := ⟨T.set .nil b o, 0⟩
theorem one_get (b : Nat) (o : HObj) : (one b o).get b = some o := by unfold one Heap.get; exact T.get_set_same ..
def lookF (P : Program) (t : TypeId) (ok : Bool) (m k : LV) (h : FH) : Option LV :=
  onMap m (fun b => fObj h b (fun o => lookupE P t m k ok (one b o)) none) (lookupE P t m k ok .empty)
theorem lookF_ok {fh : FH} {h : Heap} (r : HR fh h) {t : TypeId} {ok : Bool} {m k v : LV} (he : lookF P t ok m k fh = some v) : lookupE P t m k ok h = some v := by
  unfold lookF onMap at he
  split at he
  · rename_i b
    obtain ⟨o, h1, h2⟩ := fObj_some he
    have h3 := r.obj h1
    rw [← h2]
    unfold lookupE
    simp only [h3, one_get]
  · rename_i hn
    rw [← he]
    unfold lookupE
    cases m <;> first | rfl | exact absurd rfl (hn _)
def updF (P : Program) (t : TypeId) (m k v : LV) (h : FH) : OR :=
  onMap m (fun b => fObj h b (fun o => optF (mapUpdateE P t m k v (one b o)) (fun h1 => optF (h1.get b) (fun o' => .ok LV.undef ⟨T.set h.objs b (.obj o'), h.next⟩) .no) .no) .no) .no
theorem fObj_ok {f : FH} {b : Nat} {k : HObj → OR} {v : LV} {f' : FH} (e : fObj f b k .no = .ok v f') : ∃ o, T.get f.objs b = some (.obj o) ∧ k o = .ok v f' := by
  unfold fObj at e
  cases hg : T.get f.objs b with
  | none => rw [hg] at e; cases e
  | some fo =>
    rw [hg] at e
    cases fo with
    | row ch len gen wlo => cases e
    | obj o => exact ⟨o, rfl, e⟩
theorem upd_set {t : TypeId} {b : Nat} {k v : LV} {h h1 : Heap} (e : mapUpdateE P t (.map b) k v h = some h1) : ∃ o', h1 = h.set b o' := by
  unfold mapUpdateE at e
  split at e
  · split at e
    · rename_i hm
      split at e
      · obtain ⟨r, _, e⟩ := bnd e
        cases hm
        split at e
        · split at e
          · cases e; exact ⟨_, rfl⟩
          · cases e
        · cases e; exact ⟨_, rfl⟩
      · cases e
    · cases e
  · cases e
theorem upd_one {t : TypeId} {b : Nat} {k v : LV} {h : Heap} {o o' : HObj} (hg : h.get b = some o) (e : mapUpdateE P t (.map b) k v (one b o) = some ((one b o).set b o')) : mapUpdateE P t (.map b) k v h = some (h.set b o') := by
  have inj : ∀ {x y : HObj}, (one b o).set b x = (one b o).set b y → x = y := fun {x y} q => by
    have := congrArg (fun z => Heap.get z b) q
    simpa using this
  unfold mapUpdateE at e ⊢
  cases hu : P.underlying t with
  | none => rw [hu] at e; cases e
  | some d =>
    rw [hu] at e
    cases d with
    | map kt et =>
      simp only at e ⊢
      cases hk : keyOk P 5 kt k with
      | false => rw [hk] at e; cases e
      | true =>
        simp only [hk, one_get, hg] at e ⊢
        cases o with
        | map es clock =>
          obtain ⟨r, h2, e⟩ := bnd e
          simp only [h2, Option.bind_some]
          cases r with
          | none =>
            have := inj (Option.some.inj e)
            simp only [this]
          | some q =>
            obtain ⟨i, w⟩ := q
            simp only at e ⊢
            split at e
            · rename_i h3
              have := inj (Option.some.inj e)
              simp only [h3, this]
            · cases e
        | _ => cases e
    | _ => cases e
theorem updF_ok {fh fh' : FH} {h : Heap} (r : HR fh h) {t : TypeId} {m k v u : LV} (he : updF P t m k v fh = .ok u fh') : ∃ h', mapUpdateE P t m k v h = some h' ∧ HR fh' h' ∧ u = LV.undef := by
  unfold updF onMap at he
  split at he
  · rename_i b
    obtain ⟨o, h1, h2⟩ := fObj_ok he
    obtain ⟨h1', h3, h4⟩ := optF_ok h2
    obtain ⟨o', h5, h6⟩ := optF_ok h4
    cases h6
    obtain ⟨o2, rfl⟩ := upd_set h3
    rw [Heap.get_set_same] at h5
    cases h5
    exact ⟨_, upd_one (r.obj h1) h3, r.set b (by cases o' <;> rfl), rfl⟩
  · cases he
end
end
end Go.Ev

namespace Go.Ev
noncomputable section
set_option linter.unusedSimpArgs false
set_option linter.unusedVariables false
section
variable {P : Program}
theorem set_inj {h h' : Heap} {b : Nat} {x y : HObj} (q : h.set b x = h'.set b y) : x = y := by
  have := congrArg (fun z => Heap.get z b) q
  simpa using this
/-! ### entries of maps -/
theorem ent_one {t : TypeId} {b : Nat} {k v : LV} {h h1 : Heap} {o : HObj} (hg : h.get b = some o) (e : mapEntryE P t (.map b) k (one b o) = some (v, h1)) : ∃ o', h1.get b = some o' ∧ mapEntryE P t (.map b) k h = some (v, h.set b o') := by
  unfold mapEntryE at e ⊢
  cases hu : P.underlying t with
  | none => rw [hu] at e; cases e
  | some d =>
    rw [hu] at e
    cases d with
    | map kt et =>
      simp only at e ⊢
      cases hk : keyOk P 5 kt k with
      | false => rw [hk] at e; cases e
      | true =>
        simp only [hk, one_get, hg] at e ⊢
        cases o with
        | map es clock =>
          obtain ⟨r, h2, e⟩ := bnd e
          simp only [h2, Option.bind_some]
          cases r with
          | none =>
            obtain ⟨z, h3, h4⟩ := mp e
            cases h4
            exact ⟨_, Heap.get_set_same .., by simp only [h3, Option.map_some]⟩
          | some q =>
            obtain ⟨i, w⟩ := q
            simp only at e ⊢
            split at e
            · rename_i h3
              cases e
              exact ⟨_, Heap.get_set_same .., by simp only [h3]⟩
            · cases e
        | _ => cases e
    | _ => cases e
def entF (P : Program) (t : TypeId) (m k : LV) (h : FH) : OR :=
  onMap m (fun b => fObj h b (fun o => optF (mapEntryE P t m k (one b o)) (fun q => optF (q.2.get b) (fun o' => .ok q.1 ⟨T.set h.objs b (.obj o'), h.next⟩) .no) .no) .no) .no
theorem entF_ok {fh fh' : FH} {h : Heap} (r : HR fh h) {t : TypeId} {m k u : LV} (he : entF P t m k fh = .ok u fh') : ∃ h', mapEntryE P t m k h = some (u, h') ∧ HR fh' h' := by
  unfold entF onMap at he
  split at he
  · rename_i b
    obtain ⟨o, h1, h2⟩ := fObj_ok he
    obtain ⟨⟨u', h1'⟩, h3, h4⟩ := optF_ok h2
    obtain ⟨o', h5, h6⟩ := optF_ok h4
    cases h6
    obtain ⟨o2, h7, h8⟩ := ent_one (r.obj h1) h3
    rw [h7] at h5
    cases h5
    exact ⟨_, h8, r.set b (by cases o' <;> rfl)⟩
  · cases he
theorem ens_one {b : Nat} {s v : LV} {h h1 : Heap} {o : HObj} (hg : h.get b = some o) (e : entryStoreE (.map b) s v (one b o) = some h1) : ∃ o', h1.get b = some o' ∧ entryStoreE (.map b) s v h = some (h.set b o') := by
  unfold entryStoreE at e ⊢
  obtain ⟨n, h0, e⟩ := bnd e
  simp only [h0, Option.bind_some, one_get, hg] at e ⊢
  cases o with
  | map es clock =>
    obtain ⟨i, h3, h4⟩ := mp e
    cases h4
    exact ⟨_, Heap.get_set_same .., by simp only [h3, Option.map_some]⟩
  | _ => cases e
def ensF (m s v : LV) (h : FH) : OR :=
  onMap m (fun b => fObj h b (fun o => optF (entryStoreE m s v (one b o)) (fun h1 => optF (h1.get b) (fun o' => .ok LV.undef ⟨T.set h.objs b (.obj o'), h.next⟩) .no) .no) .no) .no
theorem ensF_ok {fh fh' : FH} {h : Heap} (r : HR fh h) {m s v u : LV} (he : ensF m s v fh = .ok u fh') : ∃ h', entryStoreE m s v h = some h' ∧ HR fh' h' ∧ u = LV.undef := by
  unfold ensF onMap at he
  split at he
  · rename_i b
    obtain ⟨o, h1, h2⟩ := fObj_ok he
    obtain ⟨h1', h3, h4⟩ := optF_ok h2
    obtain ⟨o', h5, h6⟩ := optF_ok h4
    cases h6
    obtain ⟨o2, h7, h8⟩ := ens_one (r.obj h1) h3
    rw [h7] at h5
    cases h5
    exact ⟨_, h8, r.set b (by cases o' <;> rfl), rfl⟩
  · cases he
/-! ### len -/
def cLen (P : Program) (t : TypeId) : Option (LV → FH → Option LV) := match P.underlying t with
  | some .string => some fun x _ => onStr x (fun s => some (.int .i64 (.ofNat (lenT s)))) none
  | some (.array n _) => some fun _ _ => some (.int .i64 (.ofNat n))
  | some (.pointer a) => (match P.underlying a with | some (.array n _) => some fun _ _ => some (.int .i64 (.ofNat n)) | _ => none)
  | some (.slice _) => some fun x _ => onSl x (fun _ _ _ n _ _ => some (.int .i64 (.ofNat n))) (fun _ n => some (.int .i64 (.ofNat n))) (some (.int .i64 (.ofNat 0))) none
  | some (.map _ _) => some fun x h => match x with
    | .nilm => some (.int .i64 0)
    | .map b => fObj h b (fun o => match o with | .map es _ => some (.int .i64 (.ofNat es.length)) | _ => none) none
    | _ => none
  | _ => none
theorem cLen_ok {t : TypeId} {f : LV → FH → Option LV} (h : cLen P t = some f) {fh : FH} {hp : Heap} (r : HR fh hp) {x v : LV} (e : f x fh = some v) : lenE P t x hp = some v := by
  unfold cLen at h
  unfold lenE
  split at h
  · rename_i hu
    cases h
    dsimp only [onStr] at e
    split at e
    · rw [hu]; rw [lenT_eq] at e; exact e
    · cases e
  · rename_i n el hu
    cases h
    rw [hu]
    cases x <;> exact e
  · rename_i a hu
    rw [hu]
    split at h
    · rename_i n el ha
      cases h
      cases x <;> simp only [ha] <;> exact e
    · cases h
  · rename_i el hu
    cases h
    rw [hu]
    dsimp only [onSl] at e
    split at e
    · exact e
    · exact e
    · exact e
    · cases e
  · rename_i kt et hu
    cases h
    rw [hu]
    dsimp only at e
    split at e
    · exact e
    · rename_i b
      obtain ⟨o, h1, h2⟩ := fObj_some e
      simp only [r.obj h1]
      split at h2
      · exact h2
      · cases h2
    · cases e
  · cases h

/-! ### calls -/
def cCall (P : Program) (c : Call) : Option FOp := (argsOf c.args.toList).bind fun as => match c.callee with
  | .builtin .len => (match c.argTypes[0]? with | some t => (cLen P t).map fun f => heapF fun tm h => optF (headR as) (fun a => ifF (Nat.beq (lenR as) 1) (f (a.val tm) h) none) none | none => none)
  | .builtin .cap => (match c.argTypes[0]? with | some t => some (pureF fun tm => optF (headR as) (fun a => ifF (Nat.beq (lenR as) 1) (capE P t (a.val tm)) none) none) | none => none)
  | .builtin .append => (match c.argTypes[0]?, as with
    | some t, [a, b] => (match P.underlying t with
      | some (.slice e) => (szOf P e).bind fun es => (bytesOfT P e).bind fun by_ => (zerosB P c.argTypes[1]?).bind fun zs => (zeroLV P e).bind fun z => match Nat.beq z.cells.length es with
        | true => some fun _ _ tm h => appF z es by_ zs (a.val tm) (b.val tm) h
        | false => none
      | _ => none)
    | _, _ => none)
  | .builtin .copy => (match c.argTypes[0]?, as with
    | some t, [a, b] => (match P.underlying t with
      | some (.slice e) => (szOf P e).map fun es => fun _ _ tm h => copyF es (a.val tm) (b.val tm) h
      | _ => none)
    | _, _ => none)
  | .builtin .min => some (pureF fun tm => minmaxE false (valsF as tm))
  | .builtin .max => some (pureF fun tm => minmaxE true (valsF as tm))
  | .builtin _ => none
  | .value (.func f) => some fun cf _ tm h => cf f (valsF as tm) h
  | .value x => (argOf x).map fun g => fun cf yf tm h => onFn (g.val tm) (fun f a c => cf f (appR (appR a (valsF as tm)) c) h) (fun l => yf l (valsF as tm) h) .no
  | .invoke _ _ => none
theorem one_list {α : Type} {as : List α} {a : α} (h1 : headR as = some a) (h2 : Nat.beq (lenR as) 1 = true) : as = [a] := by
  rw [headR_eq] at h1
  rw [lenR_eq] at h2
  have := Nat.eq_of_beq_eq_true h2
  match as, h1, this with
  | [x], h1, _ => cases h1; rfl
theorem cCall_ok {c : Call} {f : FOp} (h : cCall P c = some f) : OpR P (.call c) f := by
  unfold cCall at h
  obtain ⟨as, ha, h⟩ := bnd h
  intro cf yf call yld hc hy tm o fh hp v fh' ho hr he
  have hv := vals_ok (tm := tm) ha
  split at h
  · rename_i hcal
    split at h
    · rename_i t ht
      obtain ⟨g, h1, e⟩ := mp h
      subst e
      obtain ⟨h2, rfl⟩ := orF_ok he
      obtain ⟨a, h3, h4⟩ := optF_some h2
      obtain ⟨h5, h6⟩ := ifF_some h4
      have := one_list h3 h5
      subst this
      have h7 := cLen_ok h1 hr h6
      exact ⟨hp, by simp only [evOp, ho, hv, Option.bind_some, hcal, builtinE, ht]; show (lenE P t (a.val tm) hp).map _ = _; rw [h7]; rfl, hr⟩
    · cases h
  · rename_i hcal
    split at h
    · rename_i t ht
      cases h
      obtain ⟨h2, rfl⟩ := orF_ok he
      obtain ⟨a, h3, h4⟩ := optF_some h2
      obtain ⟨h5, h6⟩ := ifF_some h4
      have := one_list h3 h5
      subst this
      exact ⟨hp, by simp only [evOp, ho, hv, Option.bind_some, hcal, builtinE, ht]; show (capE P t (a.val tm)).map _ = _; rw [h6]; rfl, hr⟩
    · cases h
  · rename_i hcal
    split at h
    · rename_i t a b ht
      split at h
      · rename_i e hu
        obtain ⟨es, h1, h⟩ := bnd h
        obtain ⟨by_, h2, h⟩ := bnd h
        obtain ⟨zs, h3, h⟩ := bnd h
        obtain ⟨z, h4, h⟩ := bnd h
        split at h
        · rename_i h5
          cases h
          obtain ⟨h', h6, h7⟩ := appF_ok hr hu h1 h2 h3 h4 h5 he
          exact ⟨h', by simp only [evOp, ho, hv, Option.bind_some, hcal, builtinE, ht]; exact h6, h7⟩
        · cases h
      · cases h
    · cases h
  · rename_i hcal
    split at h
    · rename_i t a b ht
      split at h
      · rename_i e hu
        obtain ⟨es, h1, e⟩ := mp h
        subst e
        obtain ⟨h', h6, h7⟩ := copyF_ok hr hu h1 he
        exact ⟨h', by simp only [evOp, ho, hv, Option.bind_some, hcal, builtinE, ht]; exact h6, h7⟩
      · cases h
    · cases h
  · rename_i hcal
    cases h
    obtain ⟨h2, rfl⟩ := orF_ok he
    exact ⟨hp, by simp only [evOp, ho, hv, Option.bind_some, hcal, builtinE, h2, Option.map_some], hr⟩
  · rename_i hcal
    cases h
    obtain ⟨h2, rfl⟩ := orF_ok he
    exact ⟨hp, by simp only [evOp, ho, hv, Option.bind_some, hcal, builtinE, h2, Option.map_some], hr⟩
  · cases h
  · rename_i g hcal
    cases h
    obtain ⟨h', h6, h7⟩ := hc _ _ _ _ _ _ hr he
    refine ⟨h', ?_, h7⟩
    simp only [evOp, ho, hv, Option.bind_some, hcal, val, callV]
    rw [← h6]
    simp
  · rename_i x hne hcal
    obtain ⟨g, h1, e⟩ := mp h
    subst e
    change onFn (g.val tm) _ _ _ = _ at he
    unfold onFn at he
    split at he
    · rename_i f a c hq
      obtain ⟨h', h6, h7⟩ := hc _ _ _ _ _ _ hr he
      refine ⟨h', ?_, h7⟩
      rw [appR_eq, appR_eq] at h6
      simp only [evOp, ho, hv, Option.bind_some, hcal, argOf_ok h1 tm, hq, callV]
      exact h6
    · rename_i l hq
      obtain ⟨h', h6, h7⟩ := hy _ _ _ _ _ _ hr he
      refine ⟨h', ?_, h7⟩
      simp only [evOp, ho, hv, Option.bind_some, hcal, argOf_ok h1 tm, hq, callV]
      exact h6
    · cases he
  · cases h
/-! ### all operations -/
def cOp (P : Program) (op : Op) : Option FOp :=
  match op with
  | .move x => (argOf x).map fun a => pureF fun tm => some (a.val tm)
  | .assign x => (argOf x).map fun a => pureF fun tm => some (a.val tm)
  | .pick c x y => (argOf c).bind fun c => (argOf x).bind fun a => (argOf y).map fun b => pureF fun tm => onBool (c.val tm) (fun q => Bool.rec (motive := fun _ => Option LV) (some (b.val tm)) (some (a.val tm)) q) none
  | .alloc t => (zeroLV P t).map fun z => fun _ _ _ h => rowF h z.cells (fun b => .ptr b 0 0)
  | .box _ x => (argOf x).map fun a => fun _ _ tm h => rowF h (a.val tm).cells (fun b => .ptr b 0 0)
  | .build t ps => cBuild P t ps
  | .buildSlice t n ps => cBuildSlice P t n ps
  | .makeSlice t l c => cMakeSlice P t l c
  | .load t x => cLoad P t x
  | .store t x y => cStore P t x y
  | .nilCheck x => (argOf x).map fun a => pureF fun tm => match a.val tm with | .ptr b g o => some (.ptr b g o) | .vptr cs => some (.vptr cs) | .fn f x y => some (.fn f x y) | .yld l => some (.yld l) | _ => none
  | .binOp op t x y _ => (argOf x).bind fun a => (argOf y).map fun b => pureF fun tm => binF P op t (isSh op) (arOf op) (a.val tm) (b.val tm)
  | .unOp op _ x => (argOf x).map fun a => pureF fun tm => unOpE op (a.val tm)
  | .convert s d x => cConv P s d x
  | .makeInterface t x => (match P.underlying t with | some (.interface _) | none => none | _ => (argOf x).map fun a => pureF fun tm => some (.iface t (a.val tm)))
  | .makeFunc (.func f) first captured => (argsOf first.toList).bind fun as => (argsOf captured.toList).map fun cs => pureF fun tm => some (.fn f (valsF as tm) (valsF cs tm))
  | .slice t x lo hi mx => cSlice P t x lo hi mx
  | .fieldAddr t x i => cFieldAddr P t x i
  | .field t x i => cField P t x i
  | .indexAddr t x i => cIndexAddr P t x i
  | .index t x i => cIndex P t x i
  | .makeMap t none => some (newF P fun _ => some (.map [] 0, fun b => .map b))
  | .makeMap t (some r) => (match P.underlying t with | some (.map _ _) => (argOf r).map fun a => newF P fun tm => onInt (a.val tm) (fun _ _ => some (.map [] 0, fun b => .map b)) none | _ => none)
  | .lookup t x k ok => (argOf x).bind fun a => (argOf k).map fun b => heapF fun tm h => lookF P t ok (a.val tm) (b.val tm) h
  | .mapUpdate t m k v => (argOf m).bind fun a => (argOf k).bind fun b => (argOf v).map fun c => fun _ _ tm h => updF P t (a.val tm) (b.val tm) (c.val tm) h
  | .insert t m k v => (argOf m).bind fun a => (argOf k).bind fun b => (argOf v).map fun c => fun _ _ tm h => updF P t (a.val tm) (b.val tm) (c.val tm) h
  | .mapEntry t m k => (argOf m).bind fun a => (argOf k).map fun b => fun _ _ tm h => entF P t (a.val tm) (b.val tm) h
  | .entryStore _ m s v => (argOf m).bind fun a => (argOf s).bind fun b => (argOf v).map fun c => fun _ _ tm h => ensF (a.val tm) (b.val tm) (c.val tm) h
  | .extract t i => (argOf t).map fun a => pureF fun tm => onTuple (a.val tm) (fun vs => headR (dropR i vs)) none
  | .call c => cCall P c
  | _ => none
theorem cOp_ok {op : Op} {f : FOp} (h : cOp P op = some f) : OpR P op f := by
  unfold cOp at h
  split at h
  · obtain ⟨a, h1, e⟩ := mp h; subst e
    exact pureF_ok fun tm v hv call yld o h ho => by cases hv; simp only [evOp, ho, argOf_ok h1 tm, Option.map_some]
  · obtain ⟨a, h1, e⟩ := mp h; subst e
    exact pureF_ok fun tm v hv call yld o h ho => by cases hv; simp only [evOp, ho, argOf_ok h1 tm, Option.map_some]
  · obtain ⟨c, h1, h⟩ := bnd h; obtain ⟨a, h2, h⟩ := bnd h; obtain ⟨b, h3, e⟩ := mp h; subst e
    refine pureF_ok fun tm v hv call yld o h ho => ?_
    unfold onBool at hv
    split at hv
    · rename_i q hq
      simp only [evOp, ho, argOf_ok h1 tm, argOf_ok h2 tm, argOf_ok h3 tm, Option.bind_some, hq, Option.map_some]
      cases q <;> (cases hv; rfl)
    · cases hv
  · rename_i t
    obtain ⟨z, h1, e⟩ := mp h; subst e
    intro cf yf call yld hc hy tm o fh hp v fh' ho hr he
    obtain ⟨rfl, h6⟩ := rowF_ok hr he
    exact ⟨_, by simp only [evOp, ho, evA, h1, Option.map_some]; rfl, h6⟩
  · obtain ⟨a, h1, e⟩ := mp h; subst e
    intro cf yf call yld hc hy tm o fh hp v fh' ho hr he
    obtain ⟨rfl, h6⟩ := rowF_ok hr he
    exact ⟨_, by simp only [evOp, ho, evA, argOf_ok h1 tm, Option.map_some]; rfl, h6⟩
  · exact cBuild_ok h
  · exact cBuildSlice_ok h
  · exact cMakeSlice_ok h
  · exact cLoad_ok h
  · exact cStore_ok h
  · obtain ⟨a, h1, e⟩ := mp h; subst e
    refine pureF_ok fun tm v hv call yld o h ho => ?_
    simp only [evOp, ho, argOf_ok h1 tm, Option.bind_some]
    split at hv <;> first | (rename_i hq; cases hv; simp only [hq]) | cases hv
  · obtain ⟨a, h1, h⟩ := bnd h; obtain ⟨b, h2, e⟩ := mp h; subst e
    refine pureF_ok fun tm v hv call yld o h ho => ?_
    simp only [evOp, ho, argOf_ok h1 tm, argOf_ok h2 tm, Option.bind_some, binF_ok hv, Option.map_some]
  · obtain ⟨a, h1, e⟩ := mp h; subst e
    refine pureF_ok fun tm v hv call yld o h ho => ?_
    simp only [evOp, ho, argOf_ok h1 tm, Option.bind_some, hv, Option.map_some]
  · exact cConv_ok h
  · split at h
    · cases h
    · cases h
    · rename_i t x d hn1 hn2
      obtain ⟨a, h1, e⟩ := mp h; subst e
      refine pureF_ok fun tm v hv call yld o h ho => ?_
      cases hv
      simp only [evOp, ho, argOf_ok h1 tm, Option.bind_some]
  · obtain ⟨as, h1, h⟩ := bnd h; obtain ⟨cs, h2, e⟩ := mp h; subst e
    refine pureF_ok fun tm v hv call yld o h ho => ?_
    cases hv
    simp only [evOp, ho, vals_ok h1, vals_ok h2, Option.bind_some, Option.map_some]
  · exact cSlice_ok h
  · exact cFieldAddr_ok h
  · exact cField_ok h
  · exact cIndexAddr_ok h
  · exact cIndex_ok h
  · cases h
    exact newF_ok fun tm nw hv call yld o h ho => by cases hv; simp only [evOp, ho, evA, Option.map_some]
  · split at h
    · rename_i hu
      obtain ⟨a, h1, e⟩ := mp h; subst e
      refine newF_ok fun tm nw hv call yld o h ho => ?_
      unfold onInt at hv
      split at hv
      · rename_i hq
        cases hv
        simp only [evOp, ho, evA, hu, argOf_ok h1 tm, hq, Option.bind_some, Option.map_some]
      · cases hv
    · cases h
  · obtain ⟨a, h1, h⟩ := bnd h; obtain ⟨b, h2, e⟩ := mp h; subst e
    refine heapF_ok fun tm fh v hv call yld o h hr ho => ?_
    simp only [evOp, ho, argOf_ok h1 tm, argOf_ok h2 tm, Option.bind_some, lookF_ok hr hv, Option.map_some]
  · obtain ⟨a, h1, h⟩ := bnd h; obtain ⟨b, h2, h⟩ := bnd h; obtain ⟨c, h3, e⟩ := mp h; subst e
    intro cf yf call yld hc hy tm o fh hp v fh' ho hr he
    obtain ⟨h', h4, h5, rfl⟩ := updF_ok hr he
    exact ⟨h', by simp only [evOp, ho, argOf_ok h1 tm, argOf_ok h2 tm, argOf_ok h3 tm, Option.bind_some, h4, Option.map_some], h5⟩
  · obtain ⟨a, h1, h⟩ := bnd h; obtain ⟨b, h2, h⟩ := bnd h; obtain ⟨c, h3, e⟩ := mp h; subst e
    intro cf yf call yld hc hy tm o fh hp v fh' ho hr he
    obtain ⟨h', h4, h5, rfl⟩ := updF_ok hr he
    exact ⟨h', by simp only [evOp, ho, argOf_ok h1 tm, argOf_ok h2 tm, argOf_ok h3 tm, Option.bind_some, h4, Option.map_some], h5⟩
  · obtain ⟨a, h1, h⟩ := bnd h; obtain ⟨b, h2, e⟩ := mp h; subst e
    intro cf yf call yld hc hy tm o fh hp v fh' ho hr he
    obtain ⟨h', h4, h5⟩ := entF_ok hr he
    exact ⟨h', by simp only [evOp, ho, argOf_ok h1 tm, argOf_ok h2 tm, Option.bind_some, h4], h5⟩
  · obtain ⟨a, h1, h⟩ := bnd h; obtain ⟨b, h2, h⟩ := bnd h; obtain ⟨c, h3, e⟩ := mp h; subst e
    intro cf yf call yld hc hy tm o fh hp v fh' ho hr he
    obtain ⟨h', h4, h5, rfl⟩ := ensF_ok hr he
    exact ⟨h', by simp only [evOp, ho, argOf_ok h1 tm, argOf_ok h2 tm, argOf_ok h3 tm, Option.bind_some, h4, Option.map_some], h5⟩
  · rename_i t i
    obtain ⟨a, h1, e⟩ := mp h; subst e
    refine pureF_ok fun tm v hv call yld o h ho => ?_
    unfold onTuple at hv
    split at hv
    · rename_i vs hq
      replace hv : headR (dropR i vs) = some v := hv
      rw [headR_eq, dropR_eq, List.head?_drop] at hv
      simp only [evOp, ho, argOf_ok h1 tm, Option.bind_some, hq, hv, Option.map_some]
    · cases hv
  · exact cCall_ok h
  · cases h
end
end
end Go.Ev

namespace Go.Ev
noncomputable section
set_option linter.unusedSimpArgs false
set_option linter.unusedVariables false

/-! ## The quick evaluator: regions -/
inductive RO where
  | put (d : Path) (f : FOp)
  | eff (f : FOp)
  | gput (g : Path) (w : Bool) (d : Path) (f : FOp)
  | geff (g : Path) (w : Bool) (f : FOp)
  | bad
inductive SR where
  | ok (want : Bool) (v : LV) (tm : T LV) (h : FH)
  | no
def sPut (d : Path) (f : FOp) (cf : FC) (yf : FY) (tm : T LV) (h : FH) : SR := OR.rec (motive := fun _ => SR) (fun v h' => .ok true v (T.setP v d tm) h') .no (f cf yf tm h)
def sEff (f : FOp) (cf : FC) (yf : FY) (tm : T LV) (h : FH) : SR := OR.rec (motive := fun _ => SR) (fun v h' => .ok true v tm h') .no (f cf yf tm h)
def sGput (g : Path) (w : Bool) (d : Path) (f : FOp) (cf : FC) (yf : FY) (tm : T LV) (h : FH) : SR := ifF (onBool (gvF g tm) (fun b => Bool.rec (motive := fun _ => Bool) (notF w) w b) false)
      (OR.rec (motive := fun _ => SR) (fun v h' => .ok true v (T.setP v d tm) h') .no (f cf yf tm h)) (.ok false LV.undef (T.setP LV.undef d tm) h)
def sGeff (g : Path) (w : Bool) (f : FOp) (cf : FC) (yf : FY) (tm : T LV) (h : FH) : SR := ifF (onBool (gvF g tm) (fun b => Bool.rec (motive := fun _ => Bool) (notF w) w b) false)
      (OR.rec (motive := fun _ => SR) (fun v h' => .ok true v tm h') .no (f cf yf tm h)) (.ok false LV.undef tm h)
def sBad (cf : FC) (yf : FY) (tm : T LV) (h : FH) : SR := .no
def stepO (o : RO) : FC → FY → T LV → FH → SR := RO.rec (motive := fun _ => FC → FY → T LV → FH → SR) sPut sEff sGput sGeff sBad o
def cOper (P : Program) (n : Nat) (ops : Array Oper) (o : Oper) : RO :=
  match cOp P o.op with
  | none => .bad
  | some f => match o.guard with
    | none => (match o.dst with
      | some d => (match Nat.blt d n with | true => .put (path d) f | false => .bad)
      | none => .eff f)
    | some (j, w) => (match (ops[j]?).bind (·.dst) with
      | none => .bad
      | some g => (match o.dst with
        | some d => (match Nat.blt d n with | true => .gput (path g) w (path d) f | false => .bad)
        | none => .geff (path g) w f))
section
variable {P : Program} {cf : FC} {yf : FY} {call : CallF} {yld : Yld}
theorem wanted_gv {ops : Array Oper} {tm : T LV} {o : Oper} {j : Nat} {w : Bool} {g : Tmp} (hg : o.guard = some (j, w)) (hd : (ops[j]?).bind (·.dst) = some g) : wantedE ops tm o = onBool (gvF (path g) tm) (fun b => Bool.rec (motive := fun _ => Bool) (notF w) w b) false := by
  unfold wantedE onBool
  rw [hg]
  simp only [hd]
  rw [gvF_eq]
  cases Tmps.get tm g <;> first | rfl | (rename_i b; cases b <;> cases w <;> rfl)
theorem stepO_ok (hc : CR cf call) (hy : YR yf yld) {n : Nat} {ops : Array Oper} {o : Oper} {tm tm' : T LV} {fh fh' : FH} {h : Heap} {want : Bool} {v : LV} (hr : HR fh h) (he : stepO (cOper P n ops o) cf yf tm fh = .ok want v tm' fh') :
    wantedE ops tm o = want ∧ (want = true → ∃ h', evOp P call yld tm o h = some (v, h') ∧ HR fh' h' ∧ putE n tm o.dst v = some tm') ∧ (want = false → fh' = fh ∧ v = LV.undef ∧ putE n tm o.dst LV.undef = some tm') := by
  have orr : ∀ {f : FOp} {k : LV → T LV}, cOp P o.op = some f → OR.rec (motive := fun _ => SR) (fun v h' => .ok true v (k v) h') .no (f cf yf tm fh) = .ok want v tm' fh' → want = true ∧ ∃ h', evOp P call yld tm o h = some (v, h') ∧ HR fh' h' ∧ k v = tm' := by
    intro f k hf hq
    cases hx : f cf yf tm fh with
    | no => rw [hx] at hq; cases hq
    | ok u hh =>
      rw [hx] at hq
      cases hq
      obtain ⟨h', h1, h2⟩ := cOp_ok hf cf yf call yld hc hy tm o fh h _ _ rfl hr hx
      exact ⟨rfl, h', h1, h2, rfl⟩
  unfold cOper at he
  cases hf : cOp P o.op with
  | none => rw [hf] at he; cases he
  | some f =>
    rw [hf] at he
    simp only at he
    cases hg : o.guard with
    | none =>
      rw [hg] at he
      have hw : wantedE ops tm o = true := by unfold wantedE; rw [hg]
      simp only at he
      cases hd : o.dst with
      | none =>
        rw [hd] at he
        obtain ⟨h1, h', h2, h3, h4⟩ := orr (k := fun _ => tm) hf he
        subst h1; subst h4
        exact ⟨hw, fun _ => ⟨h', h2, h3, rfl⟩, fun q => by cases q⟩
      | some d =>
        rw [hd] at he
        simp only at he
        split at he
        · rename_i hlt
          obtain ⟨h1, h', h2, h3, h4⟩ := orr (k := fun v => T.setP v (path d) tm) hf he
          subst h1; subst h4
          exact ⟨hw, fun _ => ⟨h', h2, h3, by simp only [putE, hlt]; rfl⟩, fun q => by cases q⟩
        · cases he
    | some jw =>
      obtain ⟨j, w⟩ := jw
      rw [hg] at he
      simp only at he
      cases hj : (ops[j]?).bind (·.dst) with
      | none => rw [hj] at he; cases he
      | some g =>
        rw [hj] at he
        simp only at he
        have hw := wanted_gv (tm := tm) hg hj
        cases hd : o.dst with
        | none =>
          rw [hd] at he
          change ifF (onBool (gvF (path g) tm) _ false) _ _ = _ at he
          rw [← hw] at he
          cases hq : wantedE ops tm o with
          | true =>
            rw [hq] at he
            obtain ⟨h1, h', h2, h3, h4⟩ := orr (k := fun _ => tm) hf he
            subst h1; subst h4
            exact ⟨rfl, fun _ => ⟨h', h2, h3, rfl⟩, fun q => by cases q⟩
          | false =>
            rw [hq] at he
            cases he
            exact ⟨rfl, (fun q => by cases q), fun _ => ⟨rfl, rfl, rfl⟩⟩
        | some d =>
          rw [hd] at he
          simp only at he
          split at he
          · rename_i hlt
            change ifF (onBool (gvF (path g) tm) _ false) _ _ = _ at he
            rw [← hw] at he
            cases hq : wantedE ops tm o with
            | true =>
              rw [hq] at he
              obtain ⟨h1, h', h2, h3, h4⟩ := orr (k := fun v => T.setP v (path d) tm) hf he
              subst h1; subst h4
              exact ⟨rfl, fun _ => ⟨h', h2, h3, by simp only [putE, hlt]; rfl⟩, fun q => by cases q⟩
            | false =>
              rw [hq] at he
              cases he
              exact ⟨rfl, (fun q => by cases q), fun _ => ⟨rfl, rfl, by simp only [putE, hlt]; rfl⟩⟩
          · cases he
inductive TR where
  | ok (tm : T LV) (h : FH)
  | no
def runOs (l : List RO) : FC → FY → T LV → FH → TR :=
  List.rec (motive := fun _ => FC → FY → T LV → FH → TR) (fun _ _ tm h => .ok tm h) (fun o _ ih cf yf tm h => SR.rec (motive := fun _ => TR) (fun _ _ tm h => ih cf yf tm h) .no (stepO o cf yf tm h)) l
theorem runOs_ok (hc : CR cf call) (hy : YR yf yld) {n : Nat} {ops : Array Oper} : ∀ (os : List Oper) (tm tm' : T LV) (fh fh' : FH) (h : Heap), HR fh h → runOs (os.map (cOper P n ops)) cf yf tm fh = .ok tm' fh' → ∃ h', evOps P call yld n ops os tm h = some (tm', h') ∧ HR fh' h'
  | [], tm, tm', fh, fh', h, hr, he => by cases he; exact ⟨h, rfl, hr⟩
  | o :: os, tm, tm', fh, fh', h, hr, he => by
    change SR.rec (motive := fun _ => TR) (fun _ _ tm h => runOs (os.map (cOper P n ops)) cf yf tm h) .no (stepO (cOper P n ops o) cf yf tm fh) = _ at he
    cases hs : stepO (cOper P n ops o) cf yf tm fh with
    | no => rw [hs] at he; cases he
    | ok want v tm1 fh1 =>
      rw [hs] at he
      obtain ⟨h1, h2, h3⟩ := stepO_ok hc hy hr hs
      cases want with
      | true =>
        obtain ⟨h', h4, h5, h6⟩ := h2 rfl
        obtain ⟨h'', h7, h8⟩ := runOs_ok hc hy os tm1 tm' fh1 fh' h' h5 he
        exact ⟨h'', by unfold evOps; simp only [h1, h4, h6, h7, Option.bind_some], h8⟩
      | false =>
        obtain ⟨rfl, rfl, h6⟩ := h3 rfl
        obtain ⟨h'', h7, h8⟩ := runOs_ok hc hy os tm1 tm' _ fh' h hr he
        exact ⟨h'', by unfold evOps; simp only [h1, h6, h7, Option.bind_some], h8⟩

/-! ### regions that draw their order -/
/-- Surely the same, whatever is drawn. -/
def chkS (ks : List Kind) (ms : List Nat) (i : Nat) : Bool → List Nat → Bool
  | skip, [] => skip
  | skip, w :: rest => match ks.getD w .reads with
    | .reads => chkS ks ms i skip rest
    | .makes => chkS ks ms i false rest
    | .writes => skip && (bit (ms.getD w 0) i || chkS ks ms i false rest)
structure FR where
  i : Nat
  f : FOp
  tm : T LV
  h : FH
  v : LV
  want : Bool
  need : Bool
def sameF (cf : FC) (yf : FY) (r : FR) (h : FH) : Bool := OR.rec (motive := fun _ => Bool) (fun v _ => lvEq 10 v r.v) false (r.f cf yf r.tm h)
def chkRF (cf : FC) (yf : FY) (ks : List Kind) (ms : List Nat) (r : FR) (hl : FH) : Bool → List FR → Bool
  | skip, [] => skip || sameF cf yf r hl
  | skip, w :: rest => match ks.getD w.i .reads with
    | .reads => chkRF cf yf ks ms r hl skip rest
    | .makes => chkRF cf yf ks ms r hl (skip && !w.want) rest
    | .writes => (skip || sameF cf yf r w.h) && (bit (ms.getD w.i 0) r.i || chkRF cf yf ks ms r hl false rest)
def chkAF (cf : FC) (yf : FY) (ks : List Kind) (ms : List Nat) (hl : FH) : List FR → Bool
  | [] => true
  | r :: rest => (match r.want, r.need with | true, true => chkRF cf yf ks ms r hl true rest | _, _ => true) && chkAF cf yf ks ms hl rest
structure DI where
  i : Nat
  ro : RO
  f : FOp
  need : Bool
inductive DR where
  | ok (rs : List FR) (tm : T LV) (h : FH)
  | no
def runD (l : List DI) : FC → FY → T LV → FH → DR :=
  List.rec (motive := fun _ => FC → FY → T LV → FH → DR) (fun _ _ tm h => .ok [] tm h) (fun d _ ih cf yf tm h =>
    SR.rec (motive := fun _ => DR) (fun want v tm' h' => DR.rec (motive := fun _ => DR) (fun rs t hh => .ok (⟨d.i, d.f, tm, h, v, want, d.need⟩ :: rs) t hh) .no (ih cf yf tm' h')) .no (stepO d.ro cf yf tm h)) l
def needOf (ops : Array Oper) (ks : List Kind) (ms : List Nat) (i : Nat) (rest : List Nat) : Bool :=
  match ks.getD i .reads with
  | .reads => (match ops[i]? with | some o => !(stillB o.op || chkS ks ms i true rest) | none => true)
  | _ => false
def cDraw (P : Program) (n : Nat) (ops : Array Oper) (ks : List Kind) (ms : List Nat) : List Nat → Option (List DI)
  | [] => some []
  | i :: rest => match ops[i]? with
    | none => none
    | some o => (cOp P o.op).bind fun f => (cDraw P n ops ks ms rest).map fun l => ⟨i, cOper P n ops o, f, needOf ops ks ms i rest⟩ :: l
def noNeed (l : List DI) : Bool := l.all fun d => !d.need
/-- Of a record there, and here. -/
structure RecR (P : Program) (ops : Array Oper) (ks : List Kind) (ms : List Nat) (r : FR) (x : Rec) : Prop where
  i : r.i = x.i
  tm : r.tm = x.tm
  v : r.v = x.v
  want : r.want = x.want
  h : HR r.h x.h
  f : ∃ o, ops[x.i]? = some o ∧ OpR P o.op r.f
inductive RecsR (P : Program) (ops : Array Oper) (ks : List Kind) (ms : List Nat) : List FR → List Rec → Prop
  | nil : RecsR P ops ks ms [] []
  | cons {r : FR} {x : Rec} {rs : List FR} {xs : List Rec} (h : RecR P ops ks ms r x) (hn : r.need = needOf ops ks ms x.i (xs.map (·.i))) (t : RecsR P ops ks ms rs xs) : RecsR P ops ks ms (r :: rs) (x :: xs)
theorem runD_ok (hc : CR cf call) (hy : YR yf yld) {n : Nat} {ops : Array Oper} {ks : List Kind} {ms : List Nat} : ∀ (ord : List Nat) (l : List DI), cDraw P n ops ks ms ord = some l → ∀ (tm tm' : T LV) (fh fh' : FH) (h : Heap) (rs : List FR), HR fh h → runD l cf yf tm fh = .ok rs tm' fh' →
    ∃ xs h', drawRun P call yld n ops ord tm h = some (xs, tm', h') ∧ HR fh' h' ∧ RecsR P ops ks ms rs xs ∧ xs.map (·.i) = ord
  | [], l, hl, tm, tm', fh, fh', h, rs, hr, he => by
    cases hl
    cases he
    exact ⟨[], h, rfl, hr, .nil, rfl⟩
  | i :: ord, l, hl, tm, tm', fh, fh', h, rs, hr, he => by
    unfold cDraw at hl
    cases ho : ops[i]? with
    | none => rw [ho] at hl; cases hl
    | some o =>
      rw [ho] at hl
      obtain ⟨f, hf, hl⟩ := bnd hl
      obtain ⟨l', hl', e⟩ := mp hl
      subst e
      change SR.rec (motive := fun _ => DR) (fun want v tm' h' => DR.rec (motive := fun _ => DR) (fun rs t hh => .ok (⟨i, f, tm, fh, v, want, needOf ops ks ms i ord⟩ :: rs) t hh) .no (runD l' cf yf tm' h')) .no (stepO (cOper P n ops o) cf yf tm fh) = _ at he
      cases hs : stepO (cOper P n ops o) cf yf tm fh with
      | no => rw [hs] at he; cases he
      | ok want v tm1 fh1 =>
        rw [hs] at he
        change DR.rec (motive := fun _ => DR) _ _ (runD l' cf yf tm1 fh1) = _ at he
        cases hd : runD l' cf yf tm1 fh1 with
        | no => rw [hd] at he; cases he
        | ok rs1 t1 hh1 =>
          rw [hd] at he
          cases he
          obtain ⟨h1, h2, h3⟩ := stepO_ok hc hy hr hs
          cases want with
          | true =>
            obtain ⟨h', h4, h5, h6⟩ := h2 rfl
            obtain ⟨xs, h'', h7, h8, h9, h10⟩ := runD_ok hc hy ord l' hl' tm1 _ fh1 _ h' rs1 h5 hd
            refine ⟨⟨i, tm, h, v, true⟩ :: xs, h'', ?_, h8, .cons ⟨rfl, rfl, rfl, rfl, hr, o, ho, cOp_ok hf⟩ (by rw [h10]) h9, by simp [h10]⟩
            unfold drawRun
            simp only [ho, h1, h4, h6, h7, Option.bind_some, Option.map_some]
          | false =>
            obtain ⟨rfl, rfl, h6⟩ := h3 rfl
            obtain ⟨xs, h'', h7, h8, h9, h10⟩ := runD_ok hc hy ord l' hl' tm1 _ _ _ h rs1 hr hd
            refine ⟨⟨i, tm, h, LV.undef, false⟩ :: xs, h'', ?_, h8, .cons ⟨rfl, rfl, rfl, rfl, hr, o, ho, cOp_ok hf⟩ (by rw [h10]) h9, by simp [h10]⟩
            unfold drawRun
            simp only [ho, h1, h6, h7, Option.bind_some, Option.map_some]
theorem chkS_ok {ks : List Kind} {ms : List Nat} {o : Oper} {r : Rec} {hl : Heap} : ∀ (xs : List Rec) (s s' : Bool), (s = true → s' = true) → chkS ks ms r.i s (xs.map (·.i)) = true → chkRec P call yld ks ms o r hl s' xs = true
  | [], s, s', hs, h => by
    have : s = true := h
    unfold chkRec
    rw [hs this]; rfl
  | w :: xs, s, s', hs, h => by
    rw [List.map_cons] at h
    unfold chkS at h
    unfold chkRec
    cases hk : ks.getD w.i .reads with
    | reads => rw [hk] at h; exact chkS_ok xs s s' hs h
    | makes => rw [hk] at h; exact chkS_ok xs false _ (fun q => by cases q) h
    | writes =>
      rw [hk] at h
      simp only [Bool.and_eq_true, Bool.or_eq_true] at h ⊢
      refine ⟨.inl (hs h.1), ?_⟩
      rcases h.2 with q | q
      · exact .inl q
      · exact .inr (chkS_ok xs false _ (fun q => by cases q) q)
theorem same_ok (hc : CR cf call) (hy : YR yf yld) {ops : Array Oper} {ks : List Kind} {ms : List Nat} {r : FR} {x : Rec} (hx : RecR P ops ks ms r x) {o : Oper} (ho : ops[x.i]? = some o) {fh : FH} {h : Heap} (hr : HR fh h) (he : sameF cf yf r fh = true) : sameAt P call yld o x h = true := by
  unfold sameF at he
  obtain ⟨o', ho', hf⟩ := hx.f
  rw [ho] at ho'
  cases ho'
  cases hv : r.f cf yf r.tm fh with
  | no => rw [hv] at he; cases he
  | ok v fh' =>
    rw [hv] at he
    obtain ⟨h', h1, _⟩ := hf cf yf call yld hc hy r.tm o fh h v fh' rfl hr hv
    unfold sameAt
    rw [← hx.tm, h1, ← hx.v]
    exact he
theorem chkRF_ok (hc : CR cf call) (hy : YR yf yld) {ops : Array Oper} {ks : List Kind} {ms : List Nat} {r : FR} {x : Rec} (hx : RecR P ops ks ms r x) {o : Oper} (ho : ops[x.i]? = some o) {fl : FH} {hl : Heap} (hr : HR fl hl) : ∀ (rs : List FR) (xs : List Rec) (s : Bool), RecsR P ops ks ms rs xs → chkRF cf yf ks ms r fl s rs = true → chkRec P call yld ks ms o x hl s xs = true
  | _, _, s, .nil, h => by
    unfold chkRF at h
    unfold chkRec
    rw [Bool.or_eq_true] at h ⊢
    rcases h with q | q
    · exact .inl q
    · exact .inr (same_ok hc hy hx ho hr q)
  | _, _, s, .cons (r := w) (x := y) (rs := rs) (xs := xs) hw _ ht, h => by
    unfold chkRF at h
    unfold chkRec
    rw [hw.i, hw.want] at h
    cases hk : ks.getD y.i .reads with
    | reads => rw [hk] at h; exact chkRF_ok hc hy hx ho hr rs xs s ht h
    | makes => rw [hk] at h; exact chkRF_ok hc hy hx ho hr rs xs _ ht h
    | writes =>
      rw [hk] at h
      simp only [Bool.and_eq_true, Bool.or_eq_true] at h ⊢
      refine ⟨?_, ?_⟩
      · rcases h.1 with q | q
        · exact .inl q
        · exact .inr (same_ok hc hy hx ho hw.h q)
      · rcases h.2 with q | q
        · rw [hx.i] at q; exact .inl q
        · exact .inr (chkRF_ok hc hy hx ho hr rs xs _ ht q)
theorem chkAF_ok (hc : CR cf call) (hy : YR yf yld) {ops : Array Oper} {ks : List Kind} {ms : List Nat} {fl : FH} {hl : Heap} (hr : HR fl hl) : ∀ (rs : List FR) (xs : List Rec), RecsR P ops ks ms rs xs → chkAF cf yf ks ms fl rs = true → chkAll P call yld ops ks ms hl xs = true
  | _, _, .nil, h => rfl
  | _, _, .cons (r := r) (x := x) (rs := rs) (xs := xs) hx hn ht, h => by
    unfold chkAF at h
    unfold chkAll
    rw [Bool.and_eq_true] at h ⊢
    refine ⟨?_, chkAF_ok hc hy hr rs xs ht h.2⟩
    obtain ⟨o, ho, _⟩ := hx.f
    have h1 := h.1
    rw [hx.want, hn] at h1
    unfold needOf at h1
    cases hw : x.want with
    | false => rfl
    | true =>
      cases hk : ks.getD x.i .reads with
      | makes => rfl
      | writes => rfl
      | reads =>
        simp only [ho]
        rw [hw, hk] at h1
        simp only [ho] at h1
        cases hq : (stillB o.op || chkS ks ms x.i true (xs.map (·.i))) with
        | true =>
          rw [Bool.or_eq_true] at hq ⊢
          rcases hq with q | q
          · exact .inl q
          · exact .inr (chkS_ok xs true true (fun q => q) q)
        | false =>
          rw [hq] at h1
          rw [Bool.or_eq_true]
          exact .inr (chkRF_ok hc hy hx ho hr rs xs true ht h1)
end
end
end Go.Ev

namespace Go.Ev
noncomputable section
set_option linter.unusedSimpArgs false
set_option linter.unusedVariables false

/-! ## The quick evaluator: code and functions -/
inductive CC where
  | skip
  | ret
  | exit (id : Nat)
  | ops (l : List RO)
  | draw (l : List DI) (ks : List Kind) (ms : List Nat)
  | seq (a b : CC)
  | cond (x : Arg) (a b : CC)
  | block (id : Nat) (a : CC)
  | loop (a : CC)
  | scope (a : CC)
  | range (f : Arg) (n : Nat) (ps : List Tmp) (as bo : Code)
  | bad
inductive CRes where
  | ok (e : LExit) (tm : T LV) (h : FH)
  | no
def comp (P : Program) (n : Nat) : Code → CC
  | .skip => .skip
  | .label _ => .skip
  | .ret => .ret
  | .exit id => .exit id
  | .region _ ops false => .ops (ops.toList.map (cOper P n ops))
  | .region _ ops true =>
    let ks := ops.toList.map fun o => kindOf P o.op
    let ms := masks ops.toList []
    let ord := orderOf ks ms
    match drawOk ops ks ms ord with
    | false => .bad
    | true => match cDraw P n ops ks ms ord with
      | none => .bad
      | some l => match noNeed l with
        | true => .ops (l.map (·.ro))
        | false => .draw l ks ms
  | .seq a b => .seq (comp P n a) (comp P n b)
  | .cond x a b => match argOf x with | some x => .cond x (comp P n a) (comp P n b) | none => .bad
  | .block id a => .block id (comp P n a)
  | .loop a => .loop (comp P n a)
  | .scope a => .scope (comp P n a)
  | .rangeFunc f ps as bo => match argOf f, noRange as && noRange bo with
    | some f, true => .range f n ps.toList as bo
    | _, _ => .bad
  | _ => .bad
abbrev RunF := Nat → CC → T LV → FH → CRes
def lexF {α : Type} (e : LExit) (n : α) (x : Nat → α) (r : α) : α := LExit.rec (motive := fun _ => α) n x r e
def resF {α : Type} (r : CRes) (f : LExit → T LV → FH → α) (d : α) : α := CRes.rec (motive := fun _ => α) f d r
theorem resF_ok {r : CRes} {f : LExit → T LV → FH → CRes} {e : LExit} {tm : T LV} {h : FH} (he : resF r f .no = .ok e tm h) : ∃ e1 tm1 h1, r = .ok e1 tm1 h1 ∧ f e1 tm1 h1 = .ok e tm h := by cases r with | no => cases he | ok e1 t1 h1 => exact ⟨e1, t1, h1, rfl, he⟩
theorem resF_or {r : CRes} {f : LExit → T LV → FH → OR} {v : LV} {h : FH} (he : resF r f .no = .ok v h) : ∃ e1 tm1 h1, r = .ok e1 tm1 h1 ∧ f e1 tm1 h1 = .ok v h := by cases r with | no => cases he | ok e1 t1 h1 => exact ⟨e1, t1, h1, rfl, he⟩
/-- The loop's record. -/
def onLoop {α : Type} (h : FH) (l : Nat) (f : LoopState → Option Code → FuncId → T LV → Nat → List Tmp → Code → Code → α) (d : α) : α :=
  fObj h l (fun o => HObj.rec (motive := fun _ => α) (fun _ _ _ => d) (fun _ _ => d) d (fun _ _ => d) (fun r => LLoop.rec (motive := fun _ => α) f r) o) d
def putLoop (h : FH) (l : Nat) (r : LLoop) : FH := ⟨T.set h.objs l (.obj (.loop r)), h.next⟩
def bindF (n : Nat) (ps : List Tmp) : List LV → T LV → Option (T LV) :=
  List.rec (motive := fun _ => List LV → T LV → Option (T LV)) (fun vs tm => List.rec (motive := fun _ => Option (T LV)) (some tm) (fun _ _ _ => none) vs)
    (fun p _ ih vs tm => List.rec (motive := fun _ => Option (T LV)) none (fun v vs _ => ifF (Nat.blt p n) (ih vs (T.set tm p v)) none) vs) ps
theorem bindF_ok {n : Nat} : ∀ (ps : List Tmp) (vs : List LV) (tm tm' : T LV), bindF n ps vs tm = some tm' → bindParams n ps vs tm = some tm'
  | [], [], tm, tm', h => h
  | [], _ :: _, tm, tm', h => by cases h
  | _ :: _, [], tm, tm', h => by cases h
  | p :: ps, v :: vs, tm, tm', h => by
    obtain ⟨h1, h2⟩ := ifF_some (show ifF (Nat.blt p n) (bindF n ps vs (T.set tm p v)) none = some tm' from h)
    unfold bindParams
    simp only [putE, h1, Option.bind_some]
    exact bindF_ok ps vs _ _ h2
def stF {α : Type} (s : LoopState) (ready busy other : α) : α := match s with | .ready => ready | .busy => busy | _ => other
def yieldF (P : Program) (run : RunF) : FY := fun l args h =>
  onLoop h l (fun _ _ _ tms n ps as bo => ifF (andF (noRange as) (noRange bo)) (optF (bindF n ps args tms) (fun tm0 =>
    resF (run n (comp P n as) tm0 h) (fun e tm1 h1 => lexF e
      (onLoop h1 l (fun st pe fn tms' n' ps' as' bo' => stF st
        (resF (run n (comp P n bo) tm1 (putLoop h1 l ⟨.busy, pe, fn, tms', n', ps', as', bo'⟩)) (fun e _ h2 =>
          onLoop h2 l (fun _ _ fn tms n ps as bo => lexF e
            (.ok (.bool true) (putLoop h2 l ⟨.ready, none, fn, tms, n, ps, as, bo⟩))
            (fun id => .ok (.bool false) (putLoop h2 l ⟨.done, some (.exit id), fn, tms, n, ps, as, bo⟩))
            (.ok (.bool false) (putLoop h2 l ⟨.done, some .ret, fn, tms, n, ps, as, bo⟩))) .no) .no) .no .no) .no)
      (fun _ => .no) .no) .no) .no) .no) .no
def endLoopF (l : Nat) (tm : T LV) (h : FH) : CRes :=
  onLoop h l (fun st pe fn tms n ps as bo => stF st
    (match pe with | none => .ok .normal tm (putLoop h l ⟨.exhausted, pe, fn, tms, n, ps, as, bo⟩) | some (.exit id) => .ok (.exit id) tm (putLoop h l ⟨.exhausted, pe, fn, tms, n, ps, as, bo⟩) | some .ret => .ok .ret tm (putLoop h l ⟨.exhausted, pe, fn, tms, n, ps, as, bo⟩) | _ => .no)
    .no
    (match pe with | none => .ok .normal tm (putLoop h l ⟨.exhausted, pe, fn, tms, n, ps, as, bo⟩) | some (.exit id) => .ok (.exit id) tm (putLoop h l ⟨.exhausted, pe, fn, tms, n, ps, as, bo⟩) | some .ret => .ok .ret tm (putLoop h l ⟨.exhausted, pe, fn, tms, n, ps, as, bo⟩) | _ => .no)) .no
/-- Functions. -/
abbrev FOv := FuncId → Option (List LV → FH → OR)
structure CFn where
  body : CC
  n : Nat
  res : List (T LV → FH → Option LV)
def cRes (P : Program) : ResultVar → Option (T LV → FH → Option LV)
  | .tmp t => some fun tm _ => some (gvF (path t) tm)
  | .cell a t => (isAggB P t).bind fun ag => match ag with
    | true => (szOf P t).map fun n => loadKN n (.t (path a))
    | false => some (loadK1 (.t (path a)))
def cRess (P : Program) : List ResultVar → Option (List (T LV → FH → Option LV))
  | [] => some []
  | r :: rs => (cRes P r).bind fun f => (cRess P rs).map fun l => f :: l
def cFn (P : Program) (f : FuncId) : Option CFn := match P.funcs[f]? with
  | some fn => match fn.body with
    | some c => (cRess P fn.results.toList).map fun rs => ⟨comp P fn.ntmps c, fn.ntmps, rs⟩
    | none => none
  | none => none
def ressF (l : List (T LV → FH → Option LV)) : T LV → FH → Option (List LV) :=
  List.rec (motive := fun _ => T LV → FH → Option (List LV)) (fun _ _ => some []) (fun f _ ih tm h => optF (f tm h) (fun v => optF (ih tm h) (fun vs => some (v :: vs)) none) none) l
def argsF (vs : List LV) : Nat → T LV → T LV := List.rec (motive := fun _ => Nat → T LV → T LV) (fun _ tm => tm) (fun v _ ih i tm => ih (Nat.succ i) (T.set tm i v)) vs
theorem argsF_eq : ∀ (vs : List LV) (i : Nat) (tm : T LV), argsF vs i tm = ofArgs vs i tm
  | [], _, _ => rfl
  | v :: vs, i, tm => argsF_eq vs (i + 1) (T.set tm i v)
def oneF (vs : List LV) : LV := List.rec (motive := fun _ => LV) (.tuple []) (fun v t _ => List.rec (motive := fun _ => LV) v (fun _ _ _ => .tuple vs) t) vs
def callF (P : Program) (ov : FOv) (run : RunF) : FC := fun f args h =>
  optF (ov f) (fun F => F args h) (optF (cFn P f) (fun c => ifF (Nat.ble (lenR args) c.n)
    (resF (run c.n c.body (argsF args 0 .nil) h) (fun e tm h => lexF e (optF (ressF c.res tm h) (fun vs => .ok (oneF vs) h) .no) (fun _ => .no) (optF (ressF c.res tm h) (fun vs => .ok (oneF vs) h) .no)) .no) .no) .no)
def boolCF (v : LV) (a b : CRes) : CRes := onBool v (fun q => Bool.rec (motive := fun _ => CRes) b a q) .no
section
variable (P : Program) (ov : FOv) (run : RunF) (n : Nat)
def mSkip : T LV → FH → CRes := fun tm h => .ok .normal tm h
def mRet : T LV → FH → CRes := fun tm h => .ok .ret tm h
def mExit (id : Nat) : T LV → FH → CRes := fun tm h => .ok (.exit id) tm h
def mOps (l : List RO) : T LV → FH → CRes := fun tm h => TR.rec (motive := fun _ => CRes) (fun tm h => .ok .normal tm h) .no (runOs l (callF P ov run) (yieldF P run) tm h)
def mDraw (l : List DI) (ks : List Kind) (ms : List Nat) : T LV → FH → CRes := fun tm h => DR.rec (motive := fun _ => CRes) (fun rs tm h => ifF (chkAF (callF P ov run) (yieldF P run) ks ms h rs) (.ok .normal tm h) .no) .no (runD l (callF P ov run) (yieldF P run) tm h)
def mSeq (a b : CC) (_ _ : T LV → FH → CRes) : T LV → FH → CRes := fun tm h => resF (run n a tm h) (fun e tm h => lexF e (run n b tm h) (fun id => .ok (.exit id) tm h) (.ok .ret tm h)) .no
def mCond (x : Arg) (a b : CC) (_ _ : T LV → FH → CRes) : T LV → FH → CRes := fun tm h => boolCF (x.val tm) (run n a tm h) (run n b tm h)
def mBlock (id : Nat) (a : CC) (_ : T LV → FH → CRes) : T LV → FH → CRes := fun tm h => resF (run n a tm h) (fun e tm h => lexF e (.ok .normal tm h) (fun i => ifF (Nat.beq i id) (.ok .normal tm h) (.ok (.exit i) tm h)) (.ok .ret tm h)) .no
def mLoop (a : CC) (_ : T LV → FH → CRes) : T LV → FH → CRes := fun tm h => resF (run n a tm h) (fun e tm h => lexF e (run n (.loop a) tm h) (fun id => .ok (.exit id) tm h) (.ok .ret tm h)) .no
def mScope (a : CC) (_ : T LV → FH → CRes) : T LV → FH → CRes := fun tm h => run n a tm h
def mRange (f : Arg) (n : Nat) (ps : List Tmp) (as bo : Code) : T LV → FH → CRes := fun tm h => onFn (f.val tm) (fun g first captured => OR.rec (motive := fun _ => CRes) (fun _ h2 => endLoopF h.next tm h2) .no
      (callF P ov run g (appR (appR first [.yld h.next]) captured) ⟨T.set h.objs h.next (.obj (.loop ⟨.ready, none, 0, tm, n, ps, as, bo⟩)), Nat.succ h.next⟩)) (fun _ => .no) .no
def mBad : T LV → FH → CRes := fun _ _ => .no
end
def stepF (P : Program) (ov : FOv) (run : RunF) : RunF := fun n c => CC.rec (motive := fun _ => T LV → FH → CRes)
  mSkip mRet mExit (mOps P ov run) (mDraw P ov run) (mSeq run n) (mCond run n) (mBlock run n) (mLoop run n) (mScope run n) (mRange P ov run) mBad c
def fv (P : Program) (ov : FOv) (k : Nat) : RunF := Nat.rec (motive := fun _ => RunF) (fun _ _ _ _ => .no) (fun _ ih => stepF P ov ih) k
def fvF (P : Program) (ov : FOv) (k : Nat) : FC := callF P ov (fv P ov k)

/-! ### what it says -/
def OvR (fo : FOv) (ov : Ov) : Prop := ∀ f, (fo f = none → ov f = none) ∧ ∀ F', fo f = some F' → ∃ F, ov f = some F ∧ ∀ args fh h r fh', HR fh h → F' args fh = .ok r fh' → ∃ h', F args h = some (r, h') ∧ HR fh' h'
def RunR (P : Program) (rf : RunF) (run : Run) : Prop := ∀ n c tm fh h e tm' fh', HR fh h → rf n (comp P n c) tm fh = .ok e tm' fh' → ∃ h', run n c tm h = some (e, tm', h') ∧ HR fh' h'
section
variable {P : Program} {fo : FOv} {ov : Ov} {rf : RunF} {run : Run}
theorem onLoop_or {h : FH} {l : Nat} {f : LoopState → Option Code → FuncId → T LV → Nat → List Tmp → Code → Code → OR} {v : LV} {h' : FH} (e : onLoop h l f .no = .ok v h') : ∃ r : LLoop, T.get h.objs l = some (.obj (.loop r)) ∧ f r.state r.pending r.fn r.tmps r.n r.params r.assign r.body = .ok v h' := by
  obtain ⟨o, h1, h2⟩ := fObj_ok e
  cases o with
  | loop r => exact ⟨r, h1, h2⟩
  | _ => cases h2
theorem onLoop_res {h : FH} {l : Nat} {f : LoopState → Option Code → FuncId → T LV → Nat → List Tmp → Code → Code → CRes} {e : LExit} {tm : T LV} {h' : FH} (he : onLoop h l f .no = .ok e tm h') : ∃ r : LLoop, T.get h.objs l = some (.obj (.loop r)) ∧ f r.state r.pending r.fn r.tmps r.n r.params r.assign r.body = .ok e tm h' := by
  unfold onLoop fObj at he
  cases hg : T.get h.objs l with
  | none => rw [hg] at he; cases he
  | some fo =>
    rw [hg] at he
    cases fo with
    | row _ _ _ _ => cases he
    | obj o =>
      cases o with
      | loop r => exact ⟨r, rfl, he⟩
      | _ => cases he
theorem putLoop_ok {fh : FH} {h : Heap} (r : HR fh h) (l : Nat) (x : LLoop) : HR (putLoop fh l x) (h.set l (.loop x)) := r.set l rfl
theorem yieldF_ok (hrun : RunR P rf run) : YR (yieldF P rf) (yieldE run) := by
  intro l args fh h v fh' hr he
  obtain ⟨r, h1, he⟩ := onLoop_or he
  have h1' := hr.obj h1
  obtain ⟨h2, he⟩ := ifF_ok he
  rw [andF_eq] at h2
  obtain ⟨tm0, h3, he⟩ := optF_ok he
  obtain ⟨e1, tm1, fh1, h4, he⟩ := resF_or he
  obtain ⟨h1x, h5, hr1⟩ := hrun _ _ _ _ _ _ _ _ hr h4
  unfold yieldE
  simp only [h1', h2, bindF_ok _ _ _ _ h3, Option.bind_some, h5]
  cases e1 with
  | exit id => cases he
  | ret => cases he
  | normal =>
    dsimp only [lexF] at he
    obtain ⟨r1, h6, he⟩ := onLoop_or he
    have h6' := hr1.obj h6
    simp only [h6']
    cases hst : r1.state with
    | ready =>
      rw [hst] at he
      dsimp only [stF] at he
      obtain ⟨e2, tm2, fh2, h7, he⟩ := resF_or he
      obtain ⟨h2x, h8, hr2⟩ := hrun _ _ _ _ _ _ _ _ (putLoop_ok hr1 l { r1 with state := .busy }) h7
      simp only [h8, Option.bind_some]
      obtain ⟨r2, h9, he⟩ := onLoop_or he
      have h9' := hr2.obj h9
      unfold endRoundE
      simp only [h9']
      cases e2 with
      | normal => cases he; exact ⟨_, rfl, putLoop_ok hr2 l _⟩
      | exit id => cases he; exact ⟨_, rfl, putLoop_ok hr2 l _⟩
      | ret => cases he; exact ⟨_, rfl, putLoop_ok hr2 l _⟩
    | done => rw [hst] at he; cases he
    | busy => rw [hst] at he; cases he
    | exhausted => rw [hst] at he; cases he
theorem endLoopF_ok {l : Nat} {tm tm' : T LV} {fh fh' : FH} {h : Heap} {e : LExit} (hr : HR fh h) (he : endLoopF l tm fh = .ok e tm' fh') : ∃ h', endLoopE l tm h = some (e, tm', h') ∧ HR fh' h' := by
  obtain ⟨r, h1, he⟩ := onLoop_res he
  have h1' := hr.obj h1
  have hnb : r.state ≠ .busy := by
    intro q
    rw [q] at he
    cases he
  have he' : (match r.pending with | none => CRes.ok .normal tm (putLoop fh l { r with state := .exhausted }) | some (.exit id) => .ok (.exit id) tm (putLoop fh l { r with state := .exhausted }) | some .ret => .ok .ret tm (putLoop fh l { r with state := .exhausted }) | _ => .no) = .ok e tm' fh' := by
    cases hs : r.state <;> rw [hs] at he hnb <;> first | exact he | exact absurd rfl hnb
  have goal : ∀ z, (match r.pending with | none => some (LExit.normal, tm, h.set l (.loop { r with state := .exhausted })) | some (.exit id) => some (.exit id, tm, h.set l (.loop { r with state := .exhausted })) | some .ret => some (.ret, tm, h.set l (.loop { r with state := .exhausted })) | _ => none) = z → endLoopE l tm h = z := by
    intro z hz
    unfold endLoopE
    simp only [h1']
    cases hs : r.state <;> first | exact hz | exact absurd hs hnb
  have hp := putLoop_ok hr l { r with state := .exhausted }
  split at he'
  · rename_i q; cases he'; exact ⟨_, goal _ (by rw [q]), hp⟩
  · rename_i q; cases he'; exact ⟨_, goal _ (by rw [q]), hp⟩
  · rename_i q; cases he'; exact ⟨_, goal _ (by rw [q]), hp⟩
  · cases he'
theorem ressF_ok {tm : T LV} {fh : FH} {h : Heap} (hr : HR fh h) : ∀ (rs : List ResultVar) (l : List (T LV → FH → Option LV)) (vs : List LV), cRess P rs = some l → ressF l tm fh = some vs → resultsE P tm h rs = some vs
  | [], l, vs, hl, he => by cases hl; cases he; rfl
  | r :: rs, l, vs, hl, he => by
    unfold cRess at hl
    obtain ⟨f, h1, hl⟩ := bnd hl
    obtain ⟨l', h2, e⟩ := mp hl
    subst e
    obtain ⟨v, h3, he⟩ := optF_some (show optF (f tm fh) _ none = some vs from he)
    obtain ⟨vs', h4, h5⟩ := optF_some he
    cases h5
    have ih := ressF_ok hr rs l' vs' h2 h4
    cases r with
    | tmp t =>
      cases h1
      cases h3
      unfold resultsE
      rw [ih, gvF_eq]; rfl
    | cell a t =>
      unfold resultsE
      unfold cRes at h1
      obtain ⟨ag, h6, h1⟩ := bnd h1
      have hop : ∃ f', cLoad P t (.tmp a) = some (heapF f') ∧ f' = f := by
        cases ag with
        | true =>
          obtain ⟨n, h7, e⟩ := mp h1
          exact ⟨_, by simp only [cLoad, argOf, Option.bind_some, h6, h7, Option.map_some], e⟩
        | false =>
          cases h1
          exact ⟨_, by simp only [cLoad, argOf, Option.bind_some, h6], rfl⟩
      obtain ⟨f', h7, rfl⟩ := hop
      have := cLoad_ok h7 (fun _ _ _ => .no) (fun _ _ _ => .no) (fun _ _ _ => none) (fun _ _ _ => none) (fun _ _ _ _ _ _ _ q => by cases q) (fun _ _ _ _ _ _ _ q => by cases q) tm ⟨none, .load t (.tmp a), 0, "", #[], none⟩ fh h v fh rfl hr (by show orF _ _ = _; rw [h3]; rfl)
      obtain ⟨h', h8, _⟩ := this
      simp only [evOp, val, Option.bind_some] at h8
      obtain ⟨u, h9, h10⟩ := mp h8
      cases h10
      rw [h9, ih]
      rfl
theorem callF_ok (hov : OvR fo ov) (hrun : RunR P rf run) : CR (callF P fo rf) (callE P ov run) := by
  intro f args fh h v fh' hr he
  unfold callF at he
  unfold callE
  cases hf : fo f with
  | some F' =>
    rw [hf] at he
    obtain ⟨F, h1, h2⟩ := (hov f).2 F' hf
    simp only [h1]
    exact h2 args fh h v fh' hr he
  | none =>
    rw [hf] at he
    simp only [(hov f).1 hf]
    obtain ⟨c, h1, he⟩ := optF_ok (show optF (cFn P f) _ OR.no = OR.ok v fh' from he)
    unfold cFn at h1
    split at h1
    · rename_i fn hfn
      split at h1
      · rename_i cd hb
        obtain ⟨rs, h2, e⟩ := mp h1
        subst e
        obtain ⟨h3, he⟩ := ifF_ok he
        rw [lenR_eq] at h3
        obtain ⟨e1, tm1, fh1, h4, he⟩ := resF_or he
        rw [argsF_eq] at h4
        obtain ⟨h1x, h5, hr1⟩ := hrun _ _ _ _ _ _ _ _ hr h4
        have hone : ∀ vs : List LV, oneF vs = (match vs with | [v] => v | vs => .tuple vs) := fun vs => by match vs with | [] => rfl | [_] => rfl | _ :: _ :: _ => rfl
        simp only [hfn, hb, h3, h5, Option.bind_some]
        have fin : optF (ressF rs tm1 fh1) (fun vs => OR.ok (oneF vs) fh1) .no = .ok v fh' → ∃ h', (resultsE P tm1 h1x fn.results.toList).map (fun vs => ((match vs with | [v] => v | vs => LV.tuple vs), h1x)) = some (v, h') ∧ HR fh' h' := by
          intro q
          obtain ⟨vs, h6, h7⟩ := optF_ok q
          cases h7
          exact ⟨h1x, by rw [ressF_ok hr1 _ _ _ h2 h6, Option.map_some, hone], hr1⟩
        cases e1 with
        | normal => exact fin he
        | ret => exact fin he
        | exit id => cases he
      · cases h1
    · cases h1
theorem stepF_ok (hov : OvR fo ov) (hrun : RunR P rf run) : RunR P (stepF P fo rf) (stepE P ov run) := by
  have hc := callF_ok (P := P) hov hrun
  have hy := yieldF_ok hrun
  intro n c tm fh h e tm' fh' hr he
  cases c with
  | skip => cases he; exact ⟨h, rfl, hr⟩
  | label _ => cases he; exact ⟨h, rfl, hr⟩
  | ret => cases he; exact ⟨h, rfl, hr⟩
  | exit id => cases he; exact ⟨h, rfl, hr⟩
  | goto _ => cases he
  | refuse _ => cases he
  | region id ops draw =>
    cases draw with
    | false =>
      change TR.rec (motive := fun _ => CRes) _ _ (runOs (ops.toList.map (cOper P n ops)) _ _ tm fh) = _ at he
      cases ho : runOs (ops.toList.map (cOper P n ops)) (callF P fo rf) (yieldF P rf) tm fh with
      | no => rw [ho] at he; cases he
      | ok t1 h1 =>
        rw [ho] at he
        cases he
        obtain ⟨h', h2, h3⟩ := runOs_ok hc hy ops.toList tm _ fh _ h hr ho
        exact ⟨h', by simp only [stepE, h2, Option.map_some], h3⟩
    | true =>
      unfold comp at he
      simp only at he
      have key : ∀ {l : List DI} {rs : List FR} {t1 : T LV} {h1 : FH}, drawOk ops (ops.toList.map fun o => kindOf P o.op) (masks ops.toList []) (orderOf (ops.toList.map fun o => kindOf P o.op) (masks ops.toList [])) = true →
          cDraw P n ops (ops.toList.map fun o => kindOf P o.op) (masks ops.toList []) (orderOf (ops.toList.map fun o => kindOf P o.op) (masks ops.toList [])) = some l → runD l (callF P fo rf) (yieldF P rf) tm fh = .ok rs t1 h1 →
          chkAF (callF P fo rf) (yieldF P rf) (ops.toList.map fun o => kindOf P o.op) (masks ops.toList []) h1 rs = true → ∃ h', stepE P ov run n (.region id ops true) tm h = some (.normal, t1, h') ∧ HR h1 h' := by
        intro l rs t1 h1 k1 k2 k3 k4
        obtain ⟨xs, h', h2, h3, h4, _⟩ := runD_ok hc hy _ l k2 tm _ fh _ h rs hr k3
        have h5 := chkAF_ok hc hy h3 rs xs h4 k4
        exact ⟨h', by simp only [stepE, evDraw, k1, h2, Option.bind_some, h5, Option.map_some], h3⟩
      split at he
      · cases he
      · rename_i hok
        split at he
        · cases he
        · rename_i l hl
          split at he
          · rename_i hn
            change TR.rec (motive := fun _ => CRes) _ _ (runOs (l.map (·.ro)) _ _ tm fh) = _ at he
            have hrd : ∀ (l : List DI) (tm : T LV) (fh : FH), noNeed l = true → ∀ t1 h1, runOs (l.map (·.ro)) (callF P fo rf) (yieldF P rf) tm fh = .ok t1 h1 → ∃ rs, runD l (callF P fo rf) (yieldF P rf) tm fh = .ok rs t1 h1 ∧ ∀ hl, chkAF (callF P fo rf) (yieldF P rf) (ops.toList.map fun o => kindOf P o.op) (masks ops.toList []) hl rs = true := by
              intro l
              induction l with
              | nil => intro tm fh _ t1 h1 q; cases q; exact ⟨[], rfl, fun _ => rfl⟩
              | cons d l ih =>
                intro tm fh hq t1 h1 q
                unfold noNeed at hq
                rw [List.all_cons, Bool.and_eq_true] at hq
                change SR.rec (motive := fun _ => TR) (fun _ _ tm h => runOs (l.map (·.ro)) (callF P fo rf) (yieldF P rf) tm h) .no (stepO d.ro _ _ tm fh) = _ at q
                cases hs : stepO d.ro (callF P fo rf) (yieldF P rf) tm fh with
                | no => rw [hs] at q; cases q
                | ok want v t2 h2 =>
                  rw [hs] at q
                  obtain ⟨rs, k1, k2⟩ := ih t2 h2 hq.2 t1 h1 q
                  refine ⟨⟨d.i, d.f, tm, fh, v, want, d.need⟩ :: rs, ?_, fun hl => ?_⟩
                  · show SR.rec (motive := fun _ => DR) (fun want v tm' h' => DR.rec (motive := fun _ => DR) (fun rs t hh => .ok (⟨d.i, d.f, tm, fh, v, want, d.need⟩ :: rs) t hh) .no (runD l (callF P fo rf) (yieldF P rf) tm' h')) .no (stepO d.ro (callF P fo rf) (yieldF P rf) tm fh) = _
                    rw [hs]
                    show DR.rec (motive := fun _ => DR) _ _ (runD l (callF P fo rf) (yieldF P rf) t2 h2) = _
                    rw [k1]
                  · unfold chkAF
                    have : d.need = false := by simpa using hq.1
                    rw [Bool.and_eq_true]
                    refine ⟨?_, k2 hl⟩
                    simp only [this]
            cases ho : runOs (l.map (·.ro)) (callF P fo rf) (yieldF P rf) tm fh with
            | no => rw [ho] at he; cases he
            | ok t1 h1 =>
              rw [ho] at he
              cases he
              obtain ⟨rs, k1, k2⟩ := hrd l tm fh hn _ _ ho
              exact key hok hl k1 (k2 _)
          · change DR.rec (motive := fun _ => CRes) _ _ (runD l _ _ tm fh) = _ at he
            cases ho : runD l (callF P fo rf) (yieldF P rf) tm fh with
            | no => rw [ho] at he; cases he
            | ok rs t1 h1 =>
              rw [ho] at he
              change ifF _ _ CRes.no = _ at he
              cases hq : chkAF (callF P fo rf) (yieldF P rf) (ops.toList.map fun o => kindOf P o.op) (masks ops.toList []) h1 rs with
              | false => rw [hq] at he; cases he
              | true =>
                rw [hq] at he
                cases he
                exact key hok hl ho hq
  | seq a b =>
    obtain ⟨e1, t1, f1, h1, he⟩ := resF_ok (show resF (rf n (comp P n a) tm fh) _ CRes.no = CRes.ok e tm' fh' from he)
    obtain ⟨h', h2, h3⟩ := hrun _ _ _ _ _ _ _ _ hr h1
    simp only [stepE, h2, Option.bind_some]
    cases e1 with
    | normal => exact hrun _ _ _ _ _ _ _ _ h3 he
    | exit id => cases he; exact ⟨h', rfl, h3⟩
    | ret => cases he; exact ⟨h', rfl, h3⟩
  | cond x a b =>
    unfold comp at he
    split at he
    · rename_i x' hx
      change boolCF (x'.val tm) (rf n (comp P n a) tm fh) (rf n (comp P n b) tm fh) = _ at he
      unfold boolCF onBool at he
      simp only [stepE, argOf_ok hx tm, Option.bind_some]
      split at he
      · rename_i q hq
        rw [hq]
        cases q with
        | true => exact hrun _ _ _ _ _ _ _ _ hr he
        | false => exact hrun _ _ _ _ _ _ _ _ hr he
      · cases he
    · cases he
  | block id a =>
    obtain ⟨e1, t1, f1, h1, he⟩ := resF_ok (show resF (rf n (comp P n a) tm fh) _ CRes.no = CRes.ok e tm' fh' from he)
    obtain ⟨h', h2, h3⟩ := hrun _ _ _ _ _ _ _ _ hr h1
    simp only [stepE, h2, Option.map_some]
    cases e1 with
    | normal => cases he; exact ⟨h', rfl, h3⟩
    | ret => cases he; exact ⟨h', rfl, h3⟩
    | exit i =>
      change ifF (Nat.beq i id) _ _ = _ at he
      cases hq : Nat.beq i id with
      | true => rw [hq] at he; cases he; exact ⟨h', by simp only [hq], h3⟩
      | false => rw [hq] at he; cases he; exact ⟨h', by simp only [hq], h3⟩
  | loop a =>
    obtain ⟨e1, t1, f1, h1, he⟩ := resF_ok (show resF (rf n (comp P n a) tm fh) _ CRes.no = CRes.ok e tm' fh' from he)
    obtain ⟨h', h2, h3⟩ := hrun _ _ _ _ _ _ _ _ hr h1
    simp only [stepE, h2, Option.bind_some]
    cases e1 with
    | normal => exact hrun n (.loop a) _ _ _ _ _ _ h3 he
    | exit id => cases he; exact ⟨h', rfl, h3⟩
    | ret => cases he; exact ⟨h', rfl, h3⟩
  | scope a => exact hrun _ _ _ _ _ _ _ _ hr he
  | rangeFunc f ps as bo =>
    unfold comp at he
    split at he
    · rename_i f' hf hn
      change onFn (f'.val tm) _ _ _ = _ at he
      unfold onFn at he
      simp only [stepE, hn, argOf_ok hf tm, Option.bind_some]
      split at he
      · rename_i g first captured hq
        rw [hq]
        simp only
        dsimp only at he
        cases hcl : callF P fo rf g (appR (appR first [.yld fh.next]) captured) ⟨T.set fh.objs fh.next (.obj (.loop ⟨.ready, none, 0, tm, n, ps.toList, as, bo⟩)), Nat.succ fh.next⟩ with
        | no => rw [hcl] at he; cases he
        | ok v f2 =>
          rw [hcl] at he
          have hnew := hr.new (fo := .obj (.loop ⟨.ready, none, 0, tm, n, ps.toList, as, bo⟩)) (o := .loop ⟨.ready, none, 0, tm, n, ps.toList, as, bo⟩) rfl
          obtain ⟨h2, h3, h4⟩ := hc _ _ _ _ _ _ hnew hcl
          rw [appR_eq, appR_eq, hr.next] at h3
          simp only [h3, Option.bind_some]
          have he' : endLoopF fh.next tm f2 = .ok e tm' fh' := he
          rw [hr.next] at he'
          exact endLoopF_ok h4 he'
      · cases he
      · cases he
    · cases he
theorem fv_ok (hov : OvR fo ov) : ∀ k, RunR P (fv P fo k) (ev P ov k)
  | 0 => fun _ _ _ _ _ _ _ _ _ h => by cases h
  | k + 1 => stepF_ok hov (fv_ok hov k)
theorem fvF_ok (hov : OvR fo ov) (k : Nat) : CR (fvF P fo k) (evF P ov k) := callF_ok hov (fv_ok hov k)
end
end
end Go.Ev

namespace Go.Ev
noncomputable section
set_option linter.unusedSimpArgs false
set_option linter.unusedVariables false
/-! ## The quick evaluator: functions answered otherwise -/
def mapOF (f : LV → Option LV) (cs : List LV) : Option (List LV) := List.rec (motive := fun _ => Option (List LV)) (some []) (fun a _ ih => optF (f a) (fun u => optF ih (fun us => some (u :: us)) none) none) cs
theorem mapOF_eq {f g : LV → Option LV} : ∀ (cs us : List LV), (∀ v u, f v = some u → g v = some u) → mapOF f cs = some us → cs.mapM g = some us
  | [], us, _, h => by cases h; rfl
  | a :: cs, us, hf, h => by
    obtain ⟨u, h1, h⟩ := optF_some (show optF (f a) (fun u => optF (mapOF f cs) (fun us => some (u :: us)) none) none = some us from h)
    obtain ⟨us', h2, h3⟩ := optF_some h
    cases h3
    simp only [List.mapM_cons, hf a u h1, mapOF_eq cs us' hf h2, Option.pure_def, Option.bind_eq_bind, Option.bind_some]
def freezeF (h : FH) : Nat → LV → Option LV
  | 0, _ => none
  | d + 1, v => match v with
    | .bool b => some (.bool b)
    | .int k n => some (.int k n)
    | .str s => some (.str s)
    | .slice b g o n c es => optF (readF h b g o (Nat.mul n es)) (fun cs => optF (mapOF (freezeF h d) cs) (fun us => some (.vs us n)) none) none
    | .vs cs n => optF (mapOF (freezeF h d) cs) (fun us => some (.vs us n)) none
    | .vptr cs => optF (mapOF (freezeF h d) cs) (fun us => some (.vptr us)) none
    | .ptr b g o => fRow h b (fun _ len _ _ => optF (readF h b g o (Nat.sub len o)) (fun cs => optF (mapOF (freezeF h d) cs) (fun us => some (.vptr us)) none) none) none
    | .agg cs => optF (mapOF (freezeF h d) cs) (fun us => some (.agg us)) none
    | .tuple cs => optF (mapOF (freezeF h d) cs) (fun us => some (.tuple us)) none
    | .nilp => some .nilp
    | .nils => some .nils
    | .nilm => some .nilm
    | .nilf => some .nilf
    | .nili => some .nili
    | .iface t u => optF (freezeF h d u) (fun u => some (.iface t u)) none
    | .fn f a b => optF (mapOF (freezeF h d) a) (fun a => optF (mapOF (freezeF h d) b) (fun b => some (.fn f a b)) none) none
    | _ => none
theorem freezeF_ok {fh : FH} {h : Heap} (r : HR fh h) : ∀ (d : Nat) (v u : LV), freezeF fh d v = some u → freezeV h d v = some u
  | 0, v, u, he => by cases he
  | d + 1, v, u, he => by
    have ih := freezeF_ok r d
    cases v with
    | bool b => cases he; rfl
    | int k n => cases he; rfl
    | str s => cases he; rfl
    | nilp => cases he; rfl
    | nils => cases he; rfl
    | nilm => cases he; rfl
    | nilf => cases he; rfl
    | nili => cases he; rfl
    | map b => cases he
    | yld l => cases he
    | anyb => cases he
    | slice b g o n c es =>
      obtain ⟨cs, h1, he⟩ := optF_some (show optF (readF fh b g o (n * es)) _ none = some u from he)
      obtain ⟨us, h2, he⟩ := optF_some he
      cases he
      show ((viewCells h (.slice b g o n c es)).bind fun cs => (cs.mapM (freezeV h d)).map fun us => LV.vs us n) = _
      rw [show viewCells h (.slice b g o n c es) = some cs from readF_ok r h1]
      simp only [Option.bind_some, mapOF_eq cs us ih h2, Option.map_some]
    | vs cs n =>
      obtain ⟨us, h2, he⟩ := optF_some (show optF (mapOF (freezeF fh d) cs) _ none = some u from he)
      cases he
      show (cs.mapM (freezeV h d)).map _ = _
      simp only [mapOF_eq cs us ih h2, Option.map_some]
    | vptr cs =>
      obtain ⟨us, h2, he⟩ := optF_some (show optF (mapOF (freezeF fh d) cs) _ none = some u from he)
      cases he
      show (cs.mapM (freezeV h d)).map _ = _
      simp only [mapOF_eq cs us ih h2, Option.map_some]
    | agg cs =>
      obtain ⟨us, h2, he⟩ := optF_some (show optF (mapOF (freezeF fh d) cs) _ none = some u from he)
      cases he
      show (cs.mapM (freezeV h d)).map _ = _
      simp only [mapOF_eq cs us ih h2, Option.map_some]
    | tuple cs =>
      obtain ⟨us, h2, he⟩ := optF_some (show optF (mapOF (freezeF fh d) cs) _ none = some u from he)
      cases he
      show (cs.mapM (freezeV h d)).map _ = _
      simp only [mapOF_eq cs us ih h2, Option.map_some]
    | ptr b g o =>
      obtain ⟨ch, len, gen, wlo, h0, he⟩ := fRow_some (show fRow fh b _ none = some u from he)
      obtain ⟨cs0, h3, h4, h5⟩ := r.row h0
      obtain ⟨cs, h1, he⟩ := optF_some he
      obtain ⟨us, h2, he⟩ := optF_some he
      cases he
      have h6 := readF_ok r h1
      show ((readN h b g o (rowLen h b - o)).bind fun cs => (cs.mapM (freezeV h d)).map LV.vptr) = _
      have : rowLen h b = len := by unfold rowLen; rw [h3]; exact h5.symm
      rw [this, show readN h b g o (len - o) = some cs from h6]
      simp only [Option.bind_some, mapOF_eq cs us ih h2, Option.map_some]
    | iface t w =>
      obtain ⟨us, h2, he⟩ := optF_some (show optF (freezeF fh d w) _ none = some u from he)
      cases he
      show (freezeV h d w).map _ = _
      rw [ih w us h2]; rfl
    | fn f a b =>
      obtain ⟨us, h2, he⟩ := optF_some (show optF (mapOF (freezeF fh d) a) _ none = some u from he)
      obtain ⟨us', h3, he⟩ := optF_some he
      cases he
      show ((a.mapM (freezeV h d)).bind fun a => (b.mapM (freezeV h d)).map fun b => LV.fn f a b) = _
      simp only [mapOF_eq a us ih h2, mapOF_eq b us' ih h3, Option.bind_some, Option.map_some]
def giftF (h : FH) (g : Gift) : OR := Prod.rec (motive := fun _ => OR) (fun o mk => Option.rec (motive := fun _ => OR) (.ok (mk 0) h)
  (fun o => HObj.rec (motive := fun _ => OR) (fun cs gen wlo => .ok (mk h.next) ⟨T.set h.objs h.next (.row (ofL cs) (lenR cs) gen wlo), Nat.succ h.next⟩) (fun _ _ => .no) .no (fun _ _ => .no) (fun _ => .no) o) o) g
theorem giftF_ok {fh fh' : FH} {h : Heap} (r : HR fh h) {g : Gift} {v : LV} (e : giftF fh g = .ok v fh') : ∃ h', putGift h g = (v, h') ∧ HR fh' h' := by
  obtain ⟨o, mk⟩ := g
  cases o with
  | none => cases e; exact ⟨h, rfl, r⟩
  | some o =>
    cases o with
    | row cs gen wlo =>
      cases e
      exact ⟨_, by show (mk h.next, _) = _; rw [r.next], r.new (fo := .row (ofL cs) (lenR cs) gen wlo) (o := .row cs gen wlo) ⟨ofL_rep cs, lenR_eq cs, rfl, rfl⟩⟩
    | _ => cases e
def pureCallF (F : Pure) : List LV → FH → OR := fun args h => optF (mapOF (freezeF h 10) args) (fun vs => optF (F vs) (fun g => giftF h g) .no) .no
theorem pureCallF_ok {F : Pure} : ∀ args fh h r fh', HR fh h → pureCallF F args fh = .ok r fh' → ∃ h', pureCall F args h = some (r, h') ∧ HR fh' h' := by
  intro args fh h r fh' hr he
  obtain ⟨vs, h1, he⟩ := optF_ok he
  obtain ⟨g, h2, he⟩ := optF_ok he
  obtain ⟨h', h3, h4⟩ := giftF_ok hr he
  exact ⟨h', by unfold pureCall; rw [mapOF_eq args vs (freezeF_ok hr 10) h1, Option.bind_some, h2, Option.map_some, h3], h4⟩
def FOv.with (fo : FOv) (f : FuncId) (F : List LV → FH → OR) : FOv := fun g => match Nat.beq g f with | true => some F | false => fo g
theorem OvR.none : OvR (fun _ => Option.none) (fun _ => Option.none) := fun f => ⟨fun _ => rfl, fun F' h => by cases h⟩
theorem OvR.pure {fo : FOv} {ov : Ov} (h : OvR fo ov) (f : FuncId) (F : Pure) : OvR (fo.with f (pureCallF F)) (ov.with f F) := by
  intro g
  unfold FOv.with Ov.with
  cases Nat.beq g f with
  | true => exact ⟨(fun q => by cases q), (fun F' q => by cases q; exact ⟨_, rfl, pureCallF_ok⟩)⟩
  | false => exact h g
def rawBytesF (args : List LV) (h : FH) : OR :=
  optF (headR args) (fun a => ifF (Nat.beq (lenR args) 1) (onInt a (fun k n => Int.rec (motive := fun _ => OR) (fun n => ifF (andF (Nat.beq (ikF k) (ikF .i64)) (Nat.ble n 281474976710656)) (rowF h (repF [.anyb] n) (fun b => .slice b 0 0 n none 1)) .no) (fun _ => .no) n) .no) .no) .no
theorem rep1 (v : LV) : ∀ n, repeatCells [v] n = List.replicate n v
  | 0 => rfl
  | n + 1 => by show v :: repeatCells [v] n = v :: List.replicate n v; rw [rep1]
theorem rawBytesF_ok : ∀ args fh h r fh', HR fh h → rawBytesF args fh = .ok r fh' → ∃ h', rawBytes args h = some (r, h') ∧ HR fh' h' := by
  intro args fh h r fh' hr he
  obtain ⟨a, h1, he⟩ := optF_ok he
  obtain ⟨h2, he⟩ := ifF_ok he
  have := one_list h1 h2
  subst this
  cases a with
  | int k n =>
    cases n with
    | negSucc n => cases he
    | ofNat n =>
      obtain ⟨h3, he3⟩ := ifF_ok (show ifF (andF (Nat.beq (ikF k) (ikF .i64)) (Nat.ble n 281474976710656)) _ OR.no = OR.ok r fh' from he)
      rw [andF_eq, Bool.and_eq_true] at h3
      have := ikF_inj h3.1
      subst this
      obtain ⟨rfl, h4⟩ := rowF_ok hr he3
      rw [repF_eq, rep1] at h4
      exact ⟨_, by simp only [rawBytes, h3.2]; rfl, h4⟩
  | _ => cases he
def FOv.raw (fo : FOv) (f : FuncId) : FOv := fo.with f rawBytesF
theorem OvR.raw {fo : FOv} {ov : Ov} (h : OvR fo ov) (f : FuncId) : OvR (fo.raw f) (ov.raw f) := by
  intro g
  unfold FOv.raw FOv.with Ov.raw
  cases Nat.beq g f with
  | true => exact ⟨(fun q => by cases q), (fun F' q => by cases q; exact ⟨_, rfl, rawBytesF_ok⟩)⟩
  | false => exact h g
/-! ### what a run shows -/
section
variable {P : Program} {fo : FOv} {ov : Ov}
theorem Evs.of_fv (hov : OvR fo ov) {k n : Nat} {c : Code} {tm tm' : T LV} {fh fh' : FH} {h : Heap} {e : LExit} (hr : HR fh h) (he : fv P fo k n (comp P n c) tm fh = .ok e tm' fh') : ∃ h', Evs P ov n c tm h (e, tm', h') ∧ HR fh' h' := by
  obtain ⟨h', h1, h2⟩ := fv_ok hov k n c tm fh h e tm' fh' hr he
  exact ⟨h', .of_ev h1, h2⟩
theorem Evc.of_fv (hov : OvR fo ov) {k : Nat} {f : FuncId} {args : List LV} {fh fh' : FH} {h : Heap} {v : LV} (hr : HR fh h) (he : fvF P fo k f args fh = .ok v fh') : ∃ h', Evc P ov f args h (v, h') ∧ HR fh' h' := by
  obtain ⟨h', h1, h2⟩ := fvF_ok hov k f args fh h v fh' hr he
  exact ⟨h', .of_ev h1, h2⟩
end
end
end Go.Ev
