/-
  The first words and their image, as plain lists, and contracts out of a closed run; no conditions.
-/
import Derived.Test.YteoipmlnnlfccaaGreatFaA
import Derived.Test.YteoipmlnnlfccaaGreatFpB
namespace Go.Ev
noncomputable section
open Go.Proofs
set_option linter.unusedSimpArgs false
set_option linter.unusedVariables false
/-! ## The contracts, for the quick evaluator -/
def qAdd : List LV → FH → OR := fun args h => optF (headR args) (fun a => optF (headR (tailR args)) (fun b => ifF (Nat.beq (lenR args) 2)
  (onInt a (fun k s => Int.rec (motive := fun _ => OR) (fun s => ifF (andF (Nat.beq (ikF k) (ikF .u32)) (Nat.blt s 4294967296)) (optF (freezeF h 10 b) (fun v => optF (bytesQ v) (fun cs => natF (crcAddF cs s) (fun n => .ok (.int .u32 (.ofNat n)) h)) .no) .no) .no) (fun _ => .no) s) .no) .no) .no) .no
theorem two_list {α : Type} {l : List α} {a b : α} (h1 : headR l = some a) (h2 : headR (tailR l) = some b) (h3 : Nat.beq (lenR l) 2 = true) : l = [a, b] := by
  rw [headR_eq] at h1
  rw [headR_eq, tailR_eq] at h2
  rw [lenR_eq] at h3
  have := Nat.eq_of_beq_eq_true h3
  match l, h1, h2, this with
  | [x, y], h1, h2, _ => cases h1; cases h2; rfl
theorem qAdd_ok : ∀ args fh h r fh', HR fh h → qAdd args fh = .ok r fh' → ∃ h', pureCall fAdd args h = some (r, h') ∧ HR fh' h' := by
  intro args fh h r fh' hr he
  obtain ⟨a, h1, he⟩ := optF_ok he
  obtain ⟨b, h1', he⟩ := optF_ok he
  obtain ⟨h2, he⟩ := ifF_ok he
  have := two_list h1 h1' h2
  subst this
  cases a with
  | int k s =>
    cases s with
    | negSucc s => cases he
    | ofNat s =>
      obtain ⟨h3, he3⟩ := ifF_ok (show ifF (andF (Nat.beq (ikF k) (ikF .u32)) (Nat.blt s 4294967296)) _ OR.no = OR.ok r fh' from he)
      rw [andF_eq, Bool.and_eq_true] at h3
      have := ikF_inj h3.1
      subst this
      have hs : s < 4294967296 := by simpa [blt_eq] using h3.2
      obtain ⟨v, h4, he4⟩ := optF_ok he3
      obtain ⟨cs, h5, he5⟩ := optF_ok he4
      rw [natF_eq, crcAddF_eq] at he5
      cases he5
      refine ⟨h, ?_, hr⟩
      have e1 : freezeV h 10 (.int .u32 (.ofNat s)) = some (.int .u32 (.ofNat s)) := rfl
      unfold pureCall
      simp only [List.mapM_cons, List.mapM_nil, e1, freezeF_ok hr 10 b v h4, Option.pure_def, Option.bind_eq_bind, Option.bind_some, fAdd, bytesQ_ok h5, if_pos hs, Option.map_some]
      rfl
  | _ => cases he
theorem OvR.quick {fo : FOv} {ov : Ov} (h : OvR fo ov) (f : FuncId) (F : Pure) (F' : List LV → FH → OR) (ok : ∀ args fh h r fh', HR fh h → F' args fh = .ok r fh' → ∃ h', pureCall F args h = some (r, h') ∧ HR fh' h') : OvR (fo.with f F') (ov.with f F) := by
  intro g
  unfold FOv.with Ov.with
  cases Nat.beq g f with
  | true => exact ⟨(fun q => by cases q), (fun F' q => by cases q; exact ⟨_, rfl, ok⟩)⟩
  | false => exact h g
def fw5 : FOv := ((((((FOv.raw (fun _ => none) 132).with 43 (pureCallF fTable)).with 187 (pureCallF fTab)).with 165 qAdd).with 129 (pureCallF fBits)).with 130 (pureCallF fPow)).with 87 qOf
theorem fw5_ok : OvR fw5 fo5 := ((((((OvR.none.raw _).pure _ _).pure _ _).quick _ _ _ qAdd_ok).pure _ _).pure _ _).quick _ _ _ qOf_ok
def fw23 : FOv := (((((((fw5.with 133 (pureCallF fSpot)).with 91 (pureCallF fGet)).with 90 (pureCallF fLetter)).with 36 (pureCallF fRight)).with 89 (pureCallF fLong)).with 35 (pureCallF fStarts)).with 37 (pureCallF fJumps)).with 13 (pureCallF fCheck)
theorem fw23_ok : OvR fw23 ov23 := (((((((fw5_ok.pure _ _).pure _ _).pure _ _).pure _ _).pure _ _).pure _ _).pure _ _).pure _ _
/-! ### pieces of code -/
def takeS : Nat → Code → List Code × Code
  | 0, c => ([], c)
  | k + 1, .seq a b => (a :: (takeS k b).1, (takeS k b).2)
  | _ + 1, c => ([], c)
def fvs (P : Program) (fo : FOv) (k n : Nat) (cs : List Code) : T LV → FH → CRes :=
  List.rec (motive := fun _ => T LV → FH → CRes) (fun tm h => .ok .normal tm h) (fun c _ ih tm h => resF (fv P fo k n (comp P n c) tm h) (fun e tm h => lexF e (ih tm h) (fun _ => .no) .no) .no) cs
section
variable {P : Program} {fo : FOv} {ov : Ov} {n : Nat}
theorem EvP.pieces (hov : OvR fo ov) (k : Nat) {R : LExit → Tmps → Heap → Prop} : ∀ (j : Nat) (c : Code) (tm tm' : T LV) (fh fh' : FH) (h : Heap), HR fh h → fvs P fo k n (takeS j c).1 tm fh = .ok .normal tm' fh' → (∀ h', HR fh' h' → EvP P ov n (takeS j c).2 tm' h' R) → EvP P ov n c tm h R
  | 0, c, tm, tm', fh, fh', h, hr, he, hk => by cases he; exact hk h hr
  | j + 1, c, tm, tm', fh, fh', h, hr, he, hk => by
    cases c with
    | seq a b =>
      obtain ⟨e1, t1, f1, h1, he⟩ := resF_ok (show resF (fv P fo k n (comp P n a) tm fh) _ CRes.no = CRes.ok .normal tm' fh' from he)
      obtain ⟨h2, h3, h4⟩ := Evs.of_fv hov hr h1
      cases e1 with
      | normal =>
        obtain ⟨e, t, hh, k1, k2⟩ := EvP.pieces hov k j b t1 tm' f1 fh' h2 h4 he hk
        exact ⟨e, t, hh, h3.seq k1, k2⟩
      | exit _ => cases he
      | ret => cases he
    | _ => cases he; exact hk h hr
theorem EvP.fv (hov : OvR fo ov) {k : Nat} {R : LExit → Tmps → Heap → Prop} {c : Code} {tm tm' : T LV} {fh fh' : FH} {h : Heap} {e : LExit} (hr : HR fh h) (he : Ev.fv P fo k n (comp P n c) tm fh = .ok e tm' fh') (hk : ∀ h', HR fh' h' → R e tm' h') : EvP P ov n c tm h R := by
  obtain ⟨h', h1, h2⟩ := Evs.of_fv hov hr he
  exact ⟨_, _, _, h1, hk h' h2⟩
end
/-- Of some blocks alone. -/
def keepF (f : FH) (B n : Nat) : T FO := Nat.rec (motive := fun _ => T FO) .nil (fun i ih => Option.rec (motive := fun _ => T FO) ih (fun o => T.set ih (Nat.add B i) o) (T.get f.objs (Nat.add B i))) n
theorem keepF_get (f : FH) (B : Nat) : ∀ (n b : Nat) (o : FO), T.get (keepF f B n) b = some o → B ≤ b ∧ T.get f.objs b = some o
  | 0, b, o, h => by rw [show keepF f B 0 = T.nil from rfl, T.get_nil] at h; cases h
  | n + 1, b, o, h => by
    change T.get (Option.rec (motive := fun _ => T FO) (keepF f B n) (fun o => T.set (keepF f B n) (B + n) o) (T.get f.objs (B + n))) b = some o at h
    cases hg : T.get f.objs (B + n) with
    | none => rw [hg] at h; exact keepF_get f B n b o h
    | some x =>
      rw [hg] at h
      by_cases e : B + n = b
      · subst e
        rw [show (Option.rec (motive := fun _ => T FO) (keepF f B n) (fun o => T.set (keepF f B n) (B + n) o) (some x) : T FO) = T.set (keepF f B n) (B + n) x from rfl, T.get_set_same] at h
        cases h
        exact ⟨by omega, hg⟩
      · rw [show (Option.rec (motive := fun _ => T FO) (keepF f B n) (fun o => T.set (keepF f B n) (B + n) o) (some x) : T FO) = T.set (keepF f B n) (B + n) x from rfl, T.get_set_ne _ _ e] at h
        exact keepF_get f B n b o h
theorem HR.keep {f : FH} {h h' : Heap} (r : HR f h) (B n : Nat) (hn : h'.next = h.next) (hb : ∀ b, B ≤ b → h'.get b = h.get b) : HR ⟨keepF f B n, f.next⟩ h' := by
  refine ⟨by rw [hn]; exact r.next, fun b fo hg => ?_⟩
  obtain ⟨h1, h2⟩ := keepF_get f B n b fo hg
  obtain ⟨o, h3, h4⟩ := r.get b fo h2
  exact ⟨o, by rw [hb b h1]; exact h3, h4⟩
def bodyOf (P : Program) (f : FuncId) : Code := ((P.funcs[f]?).bind (·.body)).getD .skip
end
end Go.Ev

namespace Go.Ev
noncomputable section
open Go.Proofs
set_option linter.unusedSimpArgs false
set_option linter.unusedVariables false
/-! ## The first words, and their image, as they are -/
def onlyL : List (List Nat) := [[62, 82], [82, 62], [82, 64], [73], [74], [85, 78, 76, 79, 79, 80]]
def memL (x : List Nat) : List (List Nat) → Bool
  | [] => false
  | y :: l => match listBeq x y with | true => true | false => memL x l
def firstOf : List Row → List Wd
  | [] => [([86, 65, 82, 73, 65, 66, 76, 69], 0, [140, 102, 0, 124, 101]), ([67, 79, 78, 83, 84, 65, 78, 84], 0, [140, 124, 138, 4, 56, 101])]
  | (a, nm, _, _, e, _, _) :: l => match Nat.beq e 0 && !Nat.beq a 101 && !Nat.beq a 105 with
    | true => (nm, (match memL nm onlyL with | true => 2 | false => 0), [a, 101]) :: firstOf l
    | false => firstOf l
def firstW : List Wd := firstOf tab
def wordCells : List Wd → List LV
  | [] => []
  | (nm, fl, code) :: l => .str nm :: .int .u8 (.ofNat fl) :: .vs (u32s code) code.length :: wordCells l
def firstV : LV := .vs (wordCells firstW) 103
def le4 (x : Nat) : List Nat := [x % 256, x / 256 % 256, x / 65536 % 256, x / 16777216 % 256]
def be4 (x : Nat) : List Nat := [x / 16777216 % 256, x / 65536 % 256, x / 256 % 256, x % 256]
def encW (w : Wd) : List Nat := [w.1.length, w.2.1, w.2.2.length % 256, w.2.2.length / 256] ++ w.1 ++ w.2.2.flatMap le4
def recB (p : List Nat) : List Nat :=
  let n := p.length
  let head := [n / 256, n % 256, 255 - n / 256, 255 - n % 256]
  let body := p ++ List.replicate ((n + 3) / 4 * 4 - n) 255
  head ++ body ++ be4 (4294967295 - crcAddF (head ++ body) 4294967295) ++ [0, 0, 0, 0]
def imageB (l : List Wd) : List Nat := l.flatMap fun w => recB (encW w)
/-! ### contracts, by a run -/
def rowAll (f : FH) (b : Nat) : Option (List LV × Nat × Nat) := fRow f b (fun ch len gen wlo => some (readC ch (Nat.succ (Nat.div len 16)) 0 0 len, gen, wlo)) none
theorem rowAll_ok {f : FH} {h : Heap} (r : HR f h) {b : Nat} {cs : List LV} {gen wlo : Nat} (e : rowAll f b = some (cs, gen, wlo)) : h.get b = some (.row cs gen wlo) := by
  obtain ⟨ch, len, gen', wlo', h1, h2⟩ := fRow_some e
  obtain ⟨cs0, h3, h4, h5⟩ := r.row h1
  cases h2
  rw [h3]
  have := readC_eq h4 (len / 16 + 1) 0 0 len (by omega) (by omega) (by omega)
  have e2 : readC ch (Nat.succ (Nat.div len 16)) 0 0 len = cs0 := by
    rw [show Nat.succ (Nat.div len 16) = len / 16 + 1 from rfl, this, h5]
    simp
  rw [e2]
/-- What a run gives: a value that tells nothing of memory, or one row. -/
def giftR (r : OR) : Option (LV × Option (List LV × Nat × Nat)) := OR.rec (motive := fun _ => Option (LV × Option (List LV × Nat × Nat))) (fun v h => some (v, onSl v (fun b _ _ _ _ _ => rowAll h b) (fun _ _ => none) none none)) none r
theorem pure_val {P : Program} {fo : FOv} {ov : Ov} (hov : OvR fo ov) {k : Nat} {f : FuncId} {vs : List LV} {v : LV} (hb : bareV 10 v = true) (e : (giftR (fvF P fo k f vs .empty)).map (·.1) = some v) :
    ∃ k r h1, evF P ov k f vs Heap.empty = some (r, h1) ∧ giftE h1 r = some (none, fun _ => v) := by
  cases hq : fvF P fo k f vs .empty with
  | no => rw [hq] at e; cases e
  | ok u fh =>
    rw [hq] at e
    cases e
    obtain ⟨h', h1, h2⟩ := fvF_ok hov k f vs .empty .empty _ _ .empty hq
    exact ⟨k, _, h', h1, by unfold giftE; rw [hb]⟩
theorem pure_row {P : Program} {fo : FOv} {ov : Ov} (hov : OvR fo ov) {k : Nat} {f : FuncId} {vs : List LV} {b g o n es : Nat} {cap : Option Nat} {cs : List LV} {gen wlo : Nat} (hb : cs.all (bareV 10) = true)
    (e : giftR (fvF P fo k f vs .empty) = some (.slice b g o n cap es, some (cs, gen, wlo))) :
    ∃ k r h1, evF P ov k f vs Heap.empty = some (r, h1) ∧ giftE h1 r = some (some (.row cs gen wlo), fun id => .slice id g o n cap es) := by
  cases hq : fvF P fo k f vs .empty with
  | no => rw [hq] at e; cases e
  | ok u fh =>
    rw [hq] at e
    have e1 : u = .slice b g o n cap es := by
      have := congrArg (fun z => z.map (·.1)) e
      simpa [giftR] using this
    subst e1
    have e2 : rowAll fh b = some (cs, gen, wlo) := by
      have := congrArg (fun z => z.bind (·.2)) e
      simpa [giftR, onSl] using this
    obtain ⟨h', h1, h2⟩ := fvF_ok hov k f vs .empty .empty _ _ .empty hq
    have h3 := rowAll_ok h2 e2
    refine ⟨k, _, h', h1, ?_⟩
    unfold giftE
    have : bareV 10 (.slice b g o n cap es) = false := rfl
    rw [this]
    simp only [rowOf, h3, hb, Option.map_some]
end
end Go.Ev
