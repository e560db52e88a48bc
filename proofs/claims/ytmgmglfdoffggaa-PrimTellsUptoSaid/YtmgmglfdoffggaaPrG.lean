/-
  The plain laws of Check, and PrimWords walked by the evaluator: true for words whose codes and names are of a bounded size; no other conditions.
-/
import Derived.Test.YtmgmglfdoffggaaPrF
namespace Go.Ev
open Go.Proofs
set_option linter.unusedSimpArgs false
set_option linter.unusedVariables false
set_option maxHeartbeats 2000000
/-! Check, by value -/
def fCheck : Pure
  | [v] => (wordsOf v).map fun ws => (none, fun _ => .int .i64 (checkN ws))
  | _ => none
theorem check_ok : PureOk Try.prog ov22 12 fCheck := pureOk_of fun vs p hp => by
  unfold fCheck at hp
  split at hp
  · rename_i v
    obtain ⟨ws, hv, e⟩ := mp hp
    subst e
    obtain ⟨r, h1, k1, rfl⟩ := check_body v ws hv
    exact ⟨_, h1, k1, rfl⟩
  · cases hp
def ov23 : Ov := ov22.with 12 fCheck
theorem ov23_ok : OvOk Try.prog ov23 := Ov.with_ok prog_ok ov22_ok check_ok
def WordsV (h : Heap) (v : LV) (ws : List Wd) : Prop := ∃ v', freezeV h 10 v = some v' ∧ wordsOf v' = some ws
theorem call23_12 (run : Run) {h : Heap} {v : LV} {ws : List Wd} (hv : WordsV h v ws) : callE Try.prog ov23 run 12 [v] h = some (.int .i64 (checkN ws), h) := by
  obtain ⟨v', h1, h2⟩ := hv
  show pureCall fCheck _ h = _
  rw [pure1 h1]
  simp only [fCheck, h2, Option.map_some, putGift]
theorem call23_8 (run : Run) (h : Heap) : callE Try.prog ov23 run 8 [] h = some (.bool true, h) := rfl
/-- Words that are read stay as they are. -/
theorem parse_freeze (h : Heap) (d : Nat) : ∀ (cells : List LV) (ws : List Wd), parseW cells = some ws → cells.mapM (freezeV h (d + 2)) = some cells
  | cells, ws, hp => by
    unfold parseW at hp
    split at hp
    · rfl
    · rename_i nm fl cd rest
      obtain ⟨cs, h1, hp⟩ := bnd hp
      split at hp
      · obtain ⟨ws', h2, e⟩ := mp hp
        have ih := parse_freeze h d rest ws' h2
        have f1 : freezeV h (d + 2) (.str nm) = some (.str nm) := rfl
        have f2 : freezeV h (d + 2) (.int .u8 (.ofNat fl)) = some (.int .u8 (.ofNat fl)) := rfl
        simp only [List.mapM_cons, f1, f2, freeze_code h1 h d, ih, Option.pure_def, Option.bind_eq_bind, Option.bind_some]
      · cases hp
    · cases hp
theorem parse_cells : ∀ (cells : List LV) (ws : List Wd), parseW cells = some ws → cells.all LV.isCell = true
  | cells, ws, hp => by
    unfold parseW at hp
    split at hp
    · rfl
    · rename_i nm fl cd rest
      obtain ⟨cs, h1, hp⟩ := bnd hp
      split at hp
      · obtain ⟨ws', h2, e⟩ := mp hp
        have ih := parse_cells rest ws' h2
        have : cd.isCell = true := by rcases codeOf_shape h1 with ⟨rfl, _⟩ | rfl <;> rfl
        simp only [List.all_cons, ih, this, Bool.and_true]
        rfl
      · cases hp
    · cases hp
theorem parse_app : ∀ (c1 c2 : List LV) (w1 w2 : List Wd), parseW c1 = some w1 → parseW c2 = some w2 → parseW (c1 ++ c2) = some (w1 ++ w2)
  | c1, c2, w1, w2, hp, hp2 => by
    unfold parseW at hp
    split at hp
    · cases hp; exact hp2
    · rename_i nm fl cd rest
      obtain ⟨cs, h1, hp⟩ := bnd hp
      split at hp
      · rename_i hc
        obtain ⟨ws', h2, e⟩ := mp hp
        subst e
        have ih := parse_app rest c2 ws' w2 h2 hp2
        show parseW (.str nm :: .int .u8 (.ofNat fl) :: cd :: (rest ++ c2)) = _
        unfold parseW
        simp only [h1, Option.bind_some, if_pos hc, ih, Option.map_some, List.cons_append]
      · cases hp
    · cases hp
theorem parse_one {nm : List Nat} {fl : Nat} {cd : LV} {cs : List Nat} (h1 : codeOf cd = some cs) (h2 : strOk nm) (h3 : fl < 256) (h4 : ∀ x ∈ cs, x < 4294967296) : parseW [.str nm, .int .u8 (.ofNat fl), cd] = some [(nm, fl, cs)] := by
  have : (cs.all fun x => decide (x < 4294967296)) = true := by
    rw [List.all_eq_true]
    intro x hx
    simpa using h4 x hx
  unfold parseW
  simp only [h1, Option.bind_some, if_pos (⟨h2, h3, this⟩ : strOk nm ∧ fl < 256 ∧ _), parseW, Option.map_some]
theorem parse_len {cells : List LV} {ws : List Wd} (h : parseW cells = some ws) : cells.length = ws.length * 3 := (parse_at cells ws h).1
theorem parse_take : ∀ (cells : List LV) (ws : List Wd) (K : Nat), parseW cells = some ws → parseW (cells.take (K * 3)) = some (ws.take K)
  | cells, ws, 0, hp => by simp [parseW]
  | cells, ws, K + 1, hp => by
    unfold parseW at hp
    split at hp
    · cases hp; simp [parseW]
    · rename_i nm fl cd rest
      obtain ⟨cs, h1, hp⟩ := bnd hp
      split at hp
      · rename_i hc
        obtain ⟨ws', h2, e⟩ := mp hp
        subst e
        have ih := parse_take rest ws' K h2
        rw [show (K + 1) * 3 = K * 3 + 1 + 1 + 1 by omega]
        simp only [List.take_succ_cons]
        unfold parseW
        simp only [h1, Option.bind_some, if_pos hc, ih, Option.map_some]
      · cases hp
    · cases hp
theorem wordsOf_shape {v : LV} {ws : List Wd} (h : wordsOf v = some ws) : (v = .nils ∧ ws = []) ∨ ∃ cells, v = .vs cells ws.length ∧ parseW cells = some ws ∧ ws.length < 1048576 := by
  unfold wordsOf at h
  split at h
  · cases h; exact .inl ⟨rfl, rfl⟩
  · rename_i cells n
    obtain ⟨ws', h1, h⟩ := bnd h
    split at h
    · rename_i hn
      cases h
      exact .inr ⟨cells, by rw [hn.1], h1, by omega⟩
    · cases h
  · cases h
theorem wordsV_of {v : LV} {ws : List Wd} (h : wordsOf v = some ws) (hp : Heap) : WordsV hp v ws := by
  rcases wordsOf_shape h with ⟨rfl, rfl⟩ | ⟨cells, rfl, h1, h2⟩
  · exact ⟨.nils, rfl, rfl⟩
  · refine ⟨.vs cells ws.length, ?_, h⟩
    show (cells.mapM (freezeV hp 9)).map (fun us => LV.vs us ws.length) = _
    rw [parse_freeze hp 7 cells ws h1]; rfl
theorem Own.words {h : Heap} {v : LV} {n : Nat} {cells : List LV} {ws : List Wd} (ho : Own h 3 v n cells) (hp : parseW cells = some ws) (hl : n < 1048576) : WordsV h v ws := by
  have h1 := ho.len
  have hv := ho.view
  have h2 := parse_len hp
  cases ho with
  | nils =>
    refine ⟨.nils, rfl, ?_⟩
    have : ws = [] := by cases ws with
      | nil => rfl
      | cons w ws => simp at h2
    subst this; rfl
  | @row b g o _ cap _ _ _ hb hn hc hcells =>
    refine ⟨.vs cells n, ?_, ?_⟩
    · rw [freezeV_slice h 9, hv, Option.bind_some, parse_freeze h 7 cells ws hp, Option.map_some]
    · simp only [wordsOf, hp, Option.bind_some]
      rw [if_pos ⟨by omega, hl⟩]
theorem words_take {v : LV} {ws : List Wd} (h : wordsOf v = some ws) (K : Nat) (hK : K ≤ ws.length) :
    ∃ u, wordsOf u = some (ws.take K) ∧ ∀ hp, sliceAtOp Try.prog 30 v none (some (.int .i64 (.ofNat K))) none hp = some u := by
  rcases wordsOf_shape h with ⟨rfl, rfl⟩ | ⟨cells, rfl, h1, h2⟩
  · have : K = 0 := by simpa using hK
    subst this
    exact ⟨.nils, rfl, fun hp => by simp only [sliceAtOp, under30, sz32, Option.bind_some]; rfl⟩
  · refine ⟨.vs (cells.take (K * 3)) K, ?_, fun hp => ?_⟩
    · simp only [wordsOf, parse_take cells ws K h1, Option.bind_some]
      rw [if_pos ⟨by simp; omega, by omega⟩]
    · have hb : bounds3 ws.length ws.length none (some (.int .i64 (.ofNat K))) none = some (0, K, none) := by
        have h1 : (Nat.ble K ws.length && Nat.ble 0 K) = true := by
          have a : Nat.ble K ws.length = true := by rw [ble_eq]; simp [hK]
          have b : Nat.ble 0 K = true := by rw [ble_eq]; simp
          rw [a, b]; rfl
        simp only [bounds3, optNat, asNat?, Option.bind_some, h1]
      simp only [sliceAtOp, under30, sz32, Option.bind_some, hb, Option.map_some]
      simp
theorem words_view {v : LV} {ws : List Wd} (h : wordsOf v = some ws) : ∃ cells, parseW cells = some ws ∧ lenOf? v = some ws.length ∧ ∀ hp, viewCells hp v = some cells := by
  rcases wordsOf_shape h with ⟨rfl, rfl⟩ | ⟨cells, rfl, h1, h2⟩
  · exact ⟨[], rfl, rfl, fun _ => rfl⟩
  · exact ⟨cells, h1, rfl, fun _ => rfl⟩
theorem appT30 : AppT Try.prog 30 32 (some 30) 3 48 := ⟨under30, sz32, by kernel_rfl, by simp only [zerosB, under30], ⟨_, zero32, rfl⟩, by decide⟩
/-! arguments -/
theorem rowT30 : rowT Try.prog 30 = false := by kernel_rfl
theorem rowT32 : rowT Try.prog 32 = true := by kernel_rfl
theorem cells32 : Try.prog.cellsOf 32 = 3 := by kernel_rfl
theorem cells9 : Try.prog.cellsOf 9 = 1 := by kernel_rfl
theorem cells5 : Try.prog.cellsOf 5 = 1 := by kernel_rfl
theorem cells22 : Try.prog.cellsOf 22 = 1 := by kernel_rfl
theorem under9' : Try.prog.underlying 9 = some .string := by kernel_rfl
theorem under32 : Try.prog.underlying 32 = some (.struct #[⟨"Name", 9, 0, false, "", "", 0⟩, ⟨"Flags", 5, 1, false, "", "", 16⟩, ⟨"Code", 22, 2, false, "", "", 24⟩]) := by kernel_rfl
theorem code_shp {d B : Nat} {a : LV} (hB : B < 2 ^ 40) (h : Shp Try.prog B (d + 2) 22 [a]) : ∃ cs, codeOf a = some cs ∧ ∀ x ∈ cs, x < 4294967296 := by
  have h0 := h
  simp only [Shp, under22] at h
  have ha : Arg Try.prog B (d + 2) 22 a := by unfold Arg; rw [rowT22]; exact h0
  obtain ⟨n, h1, h2⟩ := code_arg ha
  have hn : n ≤ B ∨ n = 0 := by
    rcases h with h | ⟨els, h, hl, _⟩
    · cases h
      have := h1 Heap.empty
      simp only [lenE, under22, lenOf?, Option.map_some, Option.some.injEq, LV.int.injEq, true_and] at this
      right; exact (Int.ofNat.inj this).symm
    · cases h
      have := h1 Heap.empty
      simp only [lenE, under22, lenOf?, Option.map_some, Option.some.injEq, LV.int.injEq, true_and] at this
      left; have := Int.ofNat.inj this; omega
  obtain ⟨A, k1, k2, k3⟩ := h2 (by omega)
  exact ⟨A, k1, k3⟩
theorem shp_word {d B : Nat} {us : List LV} (hB : B < 2 ^ 40) (h : Shp Try.prog B (d + 3) 32 us) : ∃ nm fl cd cs, us = [.str nm, .int .u8 (.ofNat fl), cd] ∧ codeOf cd = some cs ∧ strOk nm ∧ fl < 256 ∧ ∀ x ∈ cs, x < 4294967296 := by
  unfold Shp at h
  rw [under32] at h
  simp only [cells32] at h
  obtain ⟨hl, hf⟩ := h
  match us, hl with
  | [a, b, c], _ =>
    have f0 := hf ⟨"Name", 9, 0, false, "", "", 0⟩ (by simp)
    have f1 := hf ⟨"Flags", 5, 1, false, "", "", 16⟩ (by simp)
    have f2 := hf ⟨"Code", 22, 2, false, "", "", 24⟩ (by simp)
    simp only [cells9, cells5, cells22, List.drop_zero, List.drop_succ_cons, List.take_succ_cons, List.take_zero] at f0 f1 f2
    unfold Shp at f0 f1
    rw [under9'] at f0
    rw [under5] at f1
    simp only at f0 f1
    obtain ⟨s, e0, hs, hsl⟩ := f0
    obtain ⟨i, e1, hw⟩ := f1
    cases e0; cases e1
    have hi : 0 ≤ i ∧ i ≤ 255 := by simpa [Lit.wf, IntKind.min, IntKind.max, IntKind.signed, IntKind.bits] using hw
    obtain ⟨x, rfl⟩ := Int.eq_ofNat_of_zero_le hi.1
    obtain ⟨cs, k1, k2⟩ := code_shp hB f2
    exact ⟨s, x, c, cs, rfl, k1, ⟨hs, by omega⟩, by omega, k2⟩
theorem words_arg {d B : Nat} {v : LV} (hB : B < 2 ^ 40) (h : Arg Try.prog B (d + 4) 30 v) : ∃ n, (∀ hp, lenE Try.prog 30 v hp = some (.int .i64 (.ofNat n))) ∧ (n < 1048576 → ∃ ws, wordsOf v = some ws ∧ ws.length = n) := by
  unfold Arg at h
  rw [rowT30] at h
  simp only at h
  unfold Shp at h
  rw [under30] at h
  simp only at h
  rcases h with h | ⟨els, h, hl, hels⟩
  · cases h
    exact ⟨0, fun hp => by simp only [lenE, under30, lenOf?, Option.map_some], fun _ => ⟨[], rfl, rfl⟩⟩
  · cases h
    refine ⟨els.length, fun hp => by simp only [lenE, under30, lenOf?, Option.map_some], fun hn => ?_⟩
    have : ∃ ws : List Wd, parseW els.flatten = some ws ∧ ws.length = els.length := by
      clear hl hn
      induction els with
      | nil => exact ⟨[], rfl, rfl⟩
      | cons el els ih =>
        obtain ⟨ws, h1, h2⟩ := ih fun e he => hels e (List.mem_cons_of_mem _ he)
        obtain ⟨nm, fl, cd, cs, rfl, k1, k2, k3, k4⟩ := shp_word hB (hels el (List.mem_cons_self ..)).2
        exact ⟨_, parse_app _ _ _ _ (parse_one k1 k2 k3 k4) h1, by simp [h2]⟩
    obtain ⟨ws, h1, h2⟩ := this
    refine ⟨ws, ?_, h2⟩
    simp only [wordsOf, h1, Option.bind_some]
    rw [if_pos ⟨h2, hn⟩]
theorem word_arg {d B : Nat} {v : LV} (hB : B < 2 ^ 40) (h : Arg Try.prog B (d + 3) 32 v) : ∃ nm fl cd cs, v = .agg [.str nm, .int .u8 (.ofNat fl), cd] ∧ codeOf cd = some cs ∧ strOk nm ∧ fl < 256 ∧ ∀ x ∈ cs, x < 4294967296 := by
  unfold Arg at h
  rw [rowT32] at h
  obtain ⟨us, rfl, h⟩ := h
  obtain ⟨nm, fl, cd, cs, rfl, k⟩ := shp_word hB h
  exact ⟨nm, fl, cd, cs, rfl, k⟩
/-! ## what Check says of more words, and of fewer -/
theorem startsOf_app (ws us : List Wd) (j : Nat) (hj : j < ws.length) : startsOf (ws ++ us) j = startsOf ws j := by
  simp only [startsOf, List.getElem?_append_left hj]
theorem placeB_app (ws us : List Wd) (n a b : Nat) (hn : n ≤ ws.length) : placeB (ws ++ us) n a b = placeB ws n a b := by
  unfold placeB
  by_cases h : a < n
  · rw [startsOf_app ws us a (by omega)]
  · simp [h]
theorem instB_app (ws us : List Wd) (i : Nat) (r : List Nat) (hi : i < ws.length) : instB (ws ++ us) i r = instB ws i r := by
  cases r with
  | nil => rfl
  | cons x r => simp only [instB, placeB_app ws us (i + 1) _ _ (by omega)]
theorem wordB_app (ws us : List Wd) (i : Nat) (hi : i < ws.length) : wordB (ws ++ us) i = wordB ws i := by
  simp only [wordB, List.getElem?_append_left hi, instB_app ws us i _ hi]
theorem checkFrom_cong (ws us : List Wd) : ∀ (k i : Nat), (∀ j, i ≤ j → j < i + k → wordB ws j = wordB us j) → checkFrom ws k i = checkFrom us k i
  | 0, _, _ => rfl
  | k + 1, i, h => by
    simp only [checkFrom, h i (Nat.le_refl _) (by omega)]
    rw [checkFrom_cong ws us k (i + 1) fun j h1 h2 => h j (by omega) (by omega)]
theorem checkFrom_add (ws : List Wd) : ∀ (k m i : Nat), checkFrom ws (k + m) i = (match checkFrom ws k i with | .ofNat j => .ofNat j | .negSucc _ => checkFrom ws m (i + k))
  | 0, m, i => by
    show checkFrom ws (0 + m) i = checkFrom ws m (i + 0)
    rw [Nat.zero_add, Nat.add_zero]
  | k + 1, m, i => by
    rw [show k + 1 + m = (k + m) + 1 by omega]
    simp only [checkFrom]
    cases wordB ws i with
    | true => simp only; rw [checkFrom_add ws k m (i + 1), show i + 1 + k = i + (k + 1) by omega]
    | false => rfl
theorem checkFrom_rng (ws : List Wd) : ∀ (k i : Nat), checkFrom ws k i = -1 ∨ ∃ j, i ≤ j ∧ j < i + k ∧ checkFrom ws k i = .ofNat j
  | 0, _ => .inl rfl
  | k + 1, i => by
    simp only [checkFrom]
    cases wordB ws i with
    | true =>
      rcases checkFrom_rng ws k (i + 1) with h | ⟨j, h1, h2, h3⟩
      · exact .inl h
      · exact .inr ⟨j, by omega, by omega, h3⟩
    | false => exact .inr ⟨i, Nat.le_refl _, by omega, rfl⟩
theorem checkN_rng (ws : List Wd) : checkN ws = -1 ∨ ∃ j, j < ws.length ∧ checkN ws = .ofNat j := by
  rcases checkFrom_rng ws ws.length 0 with h | ⟨j, _, h2, h3⟩
  · exact .inl h
  · exact .inr ⟨j, by omega, h3⟩
/-- Words behind words. -/
theorem checkN_app (ws us : List Wd) : checkN (ws ++ us) = (match checkN ws with | .ofNat j => .ofNat j | .negSucc _ => checkFrom (ws ++ us) us.length ws.length) := by
  unfold checkN
  rw [List.length_append, checkFrom_add, Nat.zero_add]
  rw [checkFrom_cong (ws ++ us) ws ws.length 0 fun j _ h => wordB_app ws us j (by omega)]
/-- Fewer words. -/
theorem checkN_take (ws : List Wd) (K : Nat) (hK : K ≤ ws.length) : checkN (ws.take K) = (match checkN ws with | .ofNat j => if j < K then .ofNat j else -1 | .negSucc _ => -1) := by
  have h := checkN_app (ws.take K) (ws.drop K)
  rw [List.take_append_drop] at h
  rcases checkN_rng (ws.take K) with h1 | ⟨j, hj, h1⟩
  · rw [h1] at h ⊢
    have h2 : checkN ws = checkFrom ws (ws.drop K).length (ws.take K).length := h
    rcases checkFrom_rng ws (ws.drop K).length (ws.take K).length with h3 | ⟨j, h4, h5, h3⟩
    · rw [h2, h3]; rfl
    · rw [h2, h3]
      simp only
      rw [if_neg (by simp at h4; omega)]
  · rw [h1] at h ⊢
    rw [h]
    simp only
    rw [if_pos (by simp at hj; omega)]
end Go.Ev

namespace Go.Ev
open Go.Proofs
set_option linter.unusedSimpArgs false
set_option linter.unusedVariables false
set_option maxHeartbeats 4000000
theorem i64_bits (cs : List Nat) : ((u32s cs).zip (u32s cs)).all (fun p => lvEq 8 p.1 p.2) = true := by
  induction cs with
  | nil => rfl
  | cons c cs ih =>
    have h1 : lvEq 8 (.int .u32 (.ofNat c)) (.int .u32 (.ofNat c)) = true := by
      show (decide (IntKind.u32 = IntKind.u32) && Nat.beq c c) = true
      rw [beq_eq]; simp
    show (((LV.int .u32 (.ofNat c), LV.int .u32 (.ofNat c)) :: (u32s cs).zip (u32s cs)).all fun p => lvEq 8 p.1 p.2) = true
    rw [List.all_cons, h1, ih]; rfl
theorem lvEq_word {nm : List Nat} {fl : Nat} {cd : LV} {cs : List Nat} (h : codeOf cd = some cs) : lvEq 10 (.agg [.str nm, .int .u8 (.ofNat fl), cd]) (.agg [.str nm, .int .u8 (.ofNat fl), cd]) = true := by
  have h2 : lvEq 9 cd cd = true := by
    rcases codeOf_shape h with ⟨rfl, _⟩ | rfl
    · rfl
    · have h3 : Nat.beq cs.length cs.length = true := by rw [beq_eq]; simp
      have h4 : Nat.beq (u32s cs).length (u32s cs).length = true := by rw [beq_eq]; simp
      show (Nat.beq cs.length cs.length && Nat.beq (u32s cs).length (u32s cs).length && ((u32s cs).zip (u32s cs)).all fun p => lvEq 8 p.1 p.2) = true
      rw [h3, h4, i64_bits]; rfl
  have h5 : lvEq 9 (.str nm) (.str nm) = true := listBeq_self nm
  have h6 : lvEq 9 (.int .u8 (.ofNat fl)) (.int .u8 (.ofNat fl)) = true := by
    show (decide (IntKind.u8 = IntKind.u8) && Nat.beq fl fl) = true
    rw [beq_eq]; simp
  show (lvEq 9 (.str nm) (.str nm) && (lvEq 9 (.int .u8 (.ofNat fl)) (.int .u8 (.ofNat fl)) && (lvEq 9 cd cd && true))) = true
  rw [h5, h6, h2]; rfl
theorem bs30_0 : buildSliceA Try.prog 30 0 [] = some (.row [] 0 0, fun b => .slice b 0 0 0 (some 0) 3) := by kernel_rfl
theorem bs30_1 (nm : List Nat) (fl : Nat) {cd : LV} {cs : List Nat} (h : codeOf cd = some cs) : buildSliceA Try.prog 30 1 [(0, .agg [.str nm, .int .u8 (.ofNat fl), cd])] = some (.row [.str nm, .int .u8 (.ofNat fl), cd] 0 0, fun b => .slice b 0 0 1 (some 1) 3) := by
  rcases codeOf_shape h with ⟨rfl, _⟩ | rfl
  · kernel_rfl
  · kernel_rfl
theorem words_long (l w c : LV) (n : Nat) (hla : ∀ hp, lenE Try.prog 30 l hp = some (.int .i64 (.ofNat n))) (hn : 12 < n) : ∃ r h1, Evc Try.prog ov23 4 [l, w, c] Heap.empty (r, h1) ∧ r = .bool true := by
  have f1 : Nat.blt 12 n = true := by rw [blt_eq]; simp [hn]
  refine Evc.of rfl Try.func4 rfl rfl ?_
  have chk_ : True := by simp only [hla, f1, call23_8, putNew_eq, hnext_empty]
  clear chk_
  repeat (first | refine EvP.seq ?_ | refine EvP.region ?_ | refine OpsP.nil ?_ | refine GuardP.no ?_ | refine DGuardP.no ?_ | refine DrP.nil ?_ | refine CondP.t ?_ | refine CondP.f ?_ | refine EvP.ret ?_ | refine EvP.skip ?_ | refine EvP.exit ?_ | refine EvP.block ?_ | refine EvP.scope ?_  | ((first | refine OpsP.put (v := ?_) (h1 := ?_) ?hd ?he ?_ | refine OpsP.eff (v := ?_) (h1 := ?_) ?he ?_ | refine GuardP.yes (v := ?_) (h1 := ?_) ?he ?_  | (refine DrP.put (d := ?_) (op := ?_) (t := ?_) (p := ?_) (a := ?_) (v := ?_) (h1 := ?_) ?ho ?hd ?he ?_; (case ho => rfl)) | (refine DrP.eff (op := ?_) (t := ?_) (p := ?_) (a := ?_) (v := ?_) (h1 := ?_) ?ho ?he ?_; (case ho => rfl)) | refine DGuardP.yes (v := ?_) (h1 := ?_) ?he ?_); (try case hd => rfl); (case he => intro run; ((try simp only [evOp, evA, val, vals, oval, parts, get_set, get_nil, ofArgs, ofValue, binOpE, arith, ilt, convertE, unOpE, builtinE, callV, List.nil_append, List.append_nil, Option.bind_some, Option.map_some, Nat.reduceEqDiff, reduceIte, Bool.not_true, Bool.not_false, List.getElem?_cons_zero, List.getElem?_cons_succ, List.getElem?_toArray, Array.toList, List.mapM_cons, List.mapM_nil, Option.pure_def, Option.bind_eq_bind, hla, f1, call23_8, putNew_eq, hnext_empty]) <;> exact rfl)))  | ((first | refine OpsP.guard (x := ?_) (b := ?_) ?hj ?hx ?hd ?_ | (refine DrP.guard (d := ?_) (op := ?_) (t := ?_) (p := ?_) (a := ?_) (j := ?_) (w := ?_) (x := ?_) (b := ?_) ?ho ?hj ?hx ?hd ?_; (case ho => rfl)) | refine EvP.condB (c := ?_) ?hx ?_); (try case hj => rfl); (case hx => ((try simp only [val, get_set, get_nil, ofArgs, ofValue, Nat.reduceEqDiff, reduceIte, Option.map_some, hla, f1, call23_8, putNew_eq, hnext_empty]) <;> exact rfl)); (try case hd => rfl)))
  refine ⟨_, rfl, ?_⟩
  simp only [oneOf, get_set, Nat.reduceEqDiff, reduceIte]
theorem words_body (l : LV) (ws : List Wd) (hl : wordsOf l = some ws) (hn : ¬ 12 < ws.length) (nm : List Nat) (fl : Nat) (cd : LV) (cs : List Nat) (hcd : codeOf cd = some cs) (hs : strOk nm) (hfl : fl < 256) (hcs : ∀ x ∈ cs, x < 4294967296) (c : Nat) (hc : c < 256) :
    ∃ r h1, Evc Try.prog ov23 4 [l, .agg [.str nm, .int .u8 (.ofNat fl), cd], .int .u8 (.ofNat c)] Heap.empty (r, h1) ∧ r = .bool true := by
  have hlen := (words_len hl).2
  have f1 : Nat.blt 12 ws.length = false := by rw [blt_eq, decide_eq_false_iff_not]; exact hn
  have hK : c % (ws.length + 1) ≤ ws.length := by have := Nat.mod_lt c (show ws.length + 1 > 0 by omega); omega
  have w1 : wrap .i64 (Int.ofNat c) = .ofNat c := wrap_nat .i64 c (by simp only [half]; omega)
  have w2 : wrap .i64 (Int.ofNat ws.length + 1) = .ofNat (ws.length + 1) := wrap_nat .i64 (ws.length + 1) (by simp only [half]; omega)
  have w3 : (Int.ofNat c).tmod (Int.ofNat (ws.length + 1)) = .ofNat (c % (ws.length + 1)) := rfl
  have w4 : ieq (Int.ofNat (ws.length + 1)) 0 = false := rfl
  have bfalse : (false = true) = False := by simp
  obtain ⟨cells, hpc, hlo, hvw⟩ := words_view hl
  have hpl := parse_len hpc
  generalize c % (ws.length + 1) = K at *
  obtain ⟨u, hu, hsl⟩ := words_take hl K hK
  have hc1 := fun run h => call23_12 run (wordsV_of hl h)
  have hc2 := fun run h => call23_12 run (wordsV_of hu h)
  -- the words behind one another
  have hb0 : (Heap.empty.new (.row [.str nm, .int .u8 (.ofNat fl), cd] 0 0)).2.get 0 = some (.row [.str nm, .int .u8 (.ofNat fl), cd] 0 0) := by rw [hget_new, hnext_empty, if_pos rfl]
  have hbn : (Heap.empty.new (.row [.str nm, .int .u8 (.ofNat fl), cd] 0 0)).2.next = 1 := rfl
  generalize hh0 : (Heap.empty.new (.row [.str nm, .int .u8 (.ofNat fl), cd] 0 0)).2 = h0 at *
  have ho1 : Own (h0.new (.row [] 0 0)).2 3 (.slice h0.next 0 0 0 (some 0) 3) 0 [] := Own.fresh [] rfl (some 0) (fun c e => by cases e; rfl)
  have hn1 : (h0.new (.row [] 0 0)).2.next = 2 := by rw [hnext_new, hbn]
  have hg1 : (h0.new (.row [] 0 0)).2.get 0 = some (.row [.str nm, .int .u8 (.ofNat fl), cd] 0 0) := by rw [hget_new, if_neg (by omega), hb0]
  generalize hh1 : (h0.new (.row [] 0 0)).2 = h1 at *
  have ho2 : Own (h1.new (.row [.str nm, .int .u8 (.ofNat fl), cd] 0 0)).2 3 (.slice h1.next 0 0 1 (some 1) 3) 1 [.str nm, .int .u8 (.ofNat fl), cd] := Own.fresh _ rfl (some 1) (fun c e => by cases e; rfl)
  have ho1' : Own (h1.new (.row [.str nm, .int .u8 (.ofNat fl), cd] 0 0)).2 3 (.slice h0.next 0 0 0 (some 0) 3) 0 [] := ho1.keep fun b e => by cases e; rw [hget_new, if_neg (by omega)]
  have hn2 : (h1.new (.row [.str nm, .int .u8 (.ofNat fl), cd] 0 0)).2.next = 3 := by rw [hnext_new, hn1]
  have hg2 : (h1.new (.row [.str nm, .int .u8 (.ofNat fl), cd] 0 0)).2.get 0 = some (.row [.str nm, .int .u8 (.ofNat fl), cd] 0 0) := by rw [hget_new, if_neg (by omega), hg1]
  generalize hh2 : (h1.new (.row [.str nm, .int .u8 (.ofNat fl), cd] 0 0)).2 = h2 at *
  obtain ⟨v1, h3, ha1, ho3, hn3, hk3, hb3⟩ := ho1'.append appT30 (x := l) hlo (hvw _) hpl (parse_cells _ _ hpc) (by show _ ≤ 70368744177664; omega) (by show _ ≤ 70368744177664; omega) (fun b e => by cases e; omega)
  have ho2' : Own h3 3 (.slice h1.next 0 0 1 (some 1) 3) 1 [.str nm, .int .u8 (.ofNat fl), cd] := ho2.keep fun b e => by
    cases e
    exact hk3 _ (by omega) (fun e => by have : h0.next = h1.next := Option.some.inj e
                                        omega)
  have hg3 : h3.get 0 = some (.row [.str nm, .int .u8 (.ofNat fl), cd] 0 0) := by
    rw [hk3 0 (by omega) (fun e => by have : h0.next = 0 := Option.some.inj e
                                      omega), hg2]
  obtain ⟨v2, h4, ha2, ho4, hn4, hk4, hb4⟩ := ho3.append appT30 (x := .slice h1.next 0 0 1 (some 1) 3) ho2'.lenOf ho2'.view rfl (parse_cells _ _ (parse_one hcd hs hfl hcs)) (by show _ ≤ 70368744177664; omega) (by show _ ≤ 70368744177664; omega) (fun b e => (hb3 b e).1)
  have hpa := parse_app _ _ _ _ hpc (parse_one hcd hs hfl hcs)
  have hc3 := fun run => call23_12 run (ho4.words (ws := ws ++ [(nm, fl, cs)]) (by rw [List.nil_append]; exact hpa) (by omega))
  have ldw : ∀ h : Heap, h.get 0 = some (.row [.str nm, .int .u8 (.ofNat fl), cd] 0 0) → loadAt Try.prog 32 (.ptr 0 0 0) h = some (.agg [.str nm, .int .u8 (.ofNat fl), cd]) := fun h hh => by simp only [loadAt, agg32, sz32, readN, hh, Option.bind_some]; rfl
  have hlv := lvEq_word (nm := nm) (fl := fl) hcd
  have htake := checkN_take ws K hK
  have happ := checkN_app ws [(nm, fl, cs)]
  have mkbox : ∀ x, Option.map (putNew Heap.empty) x = Option.map (putNew Heap.empty) x := fun _ => rfl
  have hbx : putNew Heap.empty (HObj.row [.str nm, .int .u8 (.ofNat fl), cd] 0 0, fun b => LV.ptr b 0 0) = (.ptr 0 0 0, h0) := by rw [putNew_eq, hnext_empty, hh0]
  have hp1 : putNew h0 (HObj.row [] 0 0, fun b => LV.slice b 0 0 0 (some 0) 3) = (.slice h0.next 0 0 0 (some 0) 3, h1) := by rw [putNew_eq, hh1]
  have hp2 : putNew h1 (HObj.row [.str nm, .int .u8 (.ofNat fl), cd] 0 0, fun b => LV.slice b 0 0 1 (some 1) 3) = (.slice h1.next 0 0 1 (some 1) 3, h2) := by rw [putNew_eq, hh2]
  have bs1 := bs30_1 nm fl hcd
  have ld1 := ldw h1 hg1
  have chk : True := trivial
  refine Evc.of rfl Try.func4 rfl rfl ?_
  rcases checkN_rng ws with hat | ⟨i, hi, hat⟩
  · rw [hat] at htake happ
    have htake : checkN (ws.take K) = -1 := htake
    have happ : checkN (ws ++ [(nm, fl, cs)]) = checkFrom (ws ++ [(nm, fl, cs)]) 1 ws.length := happ
    have q1 : ilt (-1) (-1) = false := rfl
    have q2 : ilt (-1) (Int.ofNat ws.length) = true := rfl
    have q3 : ilt (-1) 0 = true := rfl
    have q4 : ieq (-1) (-1) = true := rfl
    have chk_ : True := by simp only [show ilt 12 (Int.ofNat ws.length) = false from f1, hlen, LV.cells, hbx, hc1, hat, q1, q2, q3, q4, under5, under3, w1, w2, w3, w4, bfalse, hsl, hc2, htake]
    clear chk_
    repeat (first | refine EvP.seq ?_ | refine EvP.region ?_ | refine OpsP.nil ?_ | refine GuardP.no ?_ | refine DGuardP.no ?_ | refine DrP.nil ?_ | refine CondP.t ?_ | refine CondP.f ?_ | refine EvP.ret ?_ | refine EvP.skip ?_ | refine EvP.exit ?_ | refine EvP.block ?_ | refine EvP.scope ?_  | ((first | refine OpsP.put (v := ?_) (h1 := ?_) ?hd ?he ?_ | refine OpsP.eff (v := ?_) (h1 := ?_) ?he ?_ | refine GuardP.yes (v := ?_) (h1 := ?_) ?he ?_  | (refine DrP.put (d := ?_) (op := ?_) (t := ?_) (p := ?_) (a := ?_) (v := ?_) (h1 := ?_) ?ho ?hd ?he ?_; (case ho => rfl)) | (refine DrP.eff (op := ?_) (t := ?_) (p := ?_) (a := ?_) (v := ?_) (h1 := ?_) ?ho ?he ?_; (case ho => rfl)) | refine DGuardP.yes (v := ?_) (h1 := ?_) ?he ?_); (try case hd => rfl); (case he => intro run; ((try simp only [evOp, evA, val, vals, oval, parts, get_set, get_nil, ofArgs, ofValue, binOpE, arith, convertE, unOpE, builtinE, callV, List.nil_append, List.append_nil, Option.bind_some, Option.map_some, Nat.reduceEqDiff, reduceIte, Bool.not_true, Bool.not_false, List.getElem?_cons_zero, List.getElem?_cons_succ, List.getElem?_toArray, Array.toList, List.mapM_cons, List.mapM_nil, Option.pure_def, Option.bind_eq_bind, show ilt 12 (Int.ofNat ws.length) = false from f1, hlen, LV.cells, hbx, hc1, hat, q1, q2, q3, q4, under5, under3, w1, w2, w3, w4, bfalse, hsl, hc2, htake]) <;> exact rfl)))  | ((first | refine OpsP.guard (x := ?_) (b := ?_) ?hj ?hx ?hd ?_ | (refine DrP.guard (d := ?_) (op := ?_) (t := ?_) (p := ?_) (a := ?_) (j := ?_) (w := ?_) (x := ?_) (b := ?_) ?ho ?hj ?hx ?hd ?_; (case ho => rfl)) | refine EvP.condB (c := ?_) ?hx ?_); (try case hj => rfl); (case hx => ((try simp only [val, get_set, get_nil, ofArgs, ofValue, Nat.reduceEqDiff, reduceIte, Option.map_some, show ilt 12 (Int.ofNat ws.length) = false from f1, hlen, LV.cells, hbx, hc1, hat, q1, q2, q3, q4, under5, under3, w1, w2, w3, w4, bfalse, hsl, hc2, htake]) <;> exact rfl)); (try case hd => rfl)))
    refine EvP.draw (ks := [.makes, .reads, .writes, .reads, .makes, .writes, .writes, .reads]) (ms := [0, 0, 3, 0, 8, 31, 63, 127]) (ord := [0, 1, 3, 4, 2, 5, 6, 7]) ⟨rfl, rfl, by kernel_rfl, by kernel_rfl⟩ ?_
    have chk_ : True := by simp only [show ilt 12 (Int.ofNat ws.length) = false from f1, hlen, LV.cells, hbx, hc1, hat, q1, q2, q3, q4, under5, under3, w1, w2, w3, w4, bfalse, hsl, hc2, htake, bs30_0, hp1, ld1, bs1, hp2, ha1, ha2, hc3]
    clear chk_
    repeat (first | refine EvP.seq ?_ | refine EvP.region ?_ | refine OpsP.nil ?_ | refine GuardP.no ?_ | refine DGuardP.no ?_ | refine DrP.nil ?_ | refine CondP.t ?_ | refine CondP.f ?_ | refine EvP.ret ?_ | refine EvP.skip ?_ | refine EvP.exit ?_ | refine EvP.block ?_ | refine EvP.scope ?_  | ((first | refine OpsP.put (v := ?_) (h1 := ?_) ?hd ?he ?_ | refine OpsP.eff (v := ?_) (h1 := ?_) ?he ?_ | refine GuardP.yes (v := ?_) (h1 := ?_) ?he ?_  | (refine DrP.put (d := ?_) (op := ?_) (t := ?_) (p := ?_) (a := ?_) (v := ?_) (h1 := ?_) ?ho ?hd ?he ?_; (case ho => rfl)) | (refine DrP.eff (op := ?_) (t := ?_) (p := ?_) (a := ?_) (v := ?_) (h1 := ?_) ?ho ?he ?_; (case ho => rfl)) | refine DGuardP.yes (v := ?_) (h1 := ?_) ?he ?_); (try case hd => rfl); (case he => intro run; ((try simp only [evOp, evA, val, vals, oval, parts, get_set, get_nil, ofArgs, ofValue, binOpE, arith, convertE, unOpE, builtinE, callV, List.nil_append, List.append_nil, Option.bind_some, Option.map_some, Nat.reduceEqDiff, reduceIte, Bool.not_true, Bool.not_false, List.getElem?_cons_zero, List.getElem?_cons_succ, List.getElem?_toArray, Array.toList, List.mapM_cons, List.mapM_nil, Option.pure_def, Option.bind_eq_bind, show ilt 12 (Int.ofNat ws.length) = false from f1, hlen, LV.cells, hbx, hc1, hat, q1, q2, q3, q4, under5, under3, w1, w2, w3, w4, bfalse, hsl, hc2, htake, bs30_0, hp1, ld1, bs1, hp2, ha1, ha2, hc3]) <;> exact rfl)))  | ((first | refine OpsP.guard (x := ?_) (b := ?_) ?hj ?hx ?hd ?_ | (refine DrP.guard (d := ?_) (op := ?_) (t := ?_) (p := ?_) (a := ?_) (j := ?_) (w := ?_) (x := ?_) (b := ?_) ?ho ?hj ?hx ?hd ?_; (case ho => rfl)) | refine EvP.condB (c := ?_) ?hx ?_); (try case hj => rfl); (case hx => ((try simp only [val, get_set, get_nil, ofArgs, ofValue, Nat.reduceEqDiff, reduceIte, Option.map_some, show ilt 12 (Int.ofNat ws.length) = false from f1, hlen, LV.cells, hbx, hc1, hat, q1, q2, q3, q4, under5, under3, w1, w2, w3, w4, bfalse, hsl, hc2, htake, bs30_0, hp1, ld1, bs1, hp2, ha1, ha2, hc3]) <;> exact rfl)); (try case hd => rfl)))
    refine ⟨fun run => ?_, ?_⟩
    · simp only [chkAll, chkRec, stillB, List.getD_cons_zero, List.getD_cons_succ, List.getElem?_toArray, List.getElem?_cons_zero, List.getElem?_cons_succ, show bit 3 3 = false from rfl, show bit 31 3 = true from rfl, Bool.true_or, Bool.or_true, Bool.true_and, Bool.and_true, Bool.false_or, Bool.or_false, Bool.not_true, Bool.and_false, Bool.false_and]
      simp only [sameAt, evOp, val, get_set, Nat.reduceEqDiff, reduceIte, Option.bind_some, ldw h2 hg2, ldw h3 hg3, Option.map_some, hlv]
      rfl
    rcases checkFrom_rng (ws ++ [(nm, fl, cs)]) 1 ws.length with hm | ⟨j, hj1, hj2, hm⟩
    · rw [hm] at happ
      have chk_ : True := by simp only [show ilt 12 (Int.ofNat ws.length) = false from f1, hlen, LV.cells, hbx, hc1, hat, q1, q2, q3, q4, under5, under3, w1, w2, w3, w4, bfalse, hsl, hc2, htake, happ, call23_8]
      clear chk_
      repeat (first | refine EvP.seq ?_ | refine EvP.region ?_ | refine OpsP.nil ?_ | refine GuardP.no ?_ | refine DGuardP.no ?_ | refine DrP.nil ?_ | refine CondP.t ?_ | refine CondP.f ?_ | refine EvP.ret ?_ | refine EvP.skip ?_ | refine EvP.exit ?_ | refine EvP.block ?_ | refine EvP.scope ?_  | ((first | refine OpsP.put (v := ?_) (h1 := ?_) ?hd ?he ?_ | refine OpsP.eff (v := ?_) (h1 := ?_) ?he ?_ | refine GuardP.yes (v := ?_) (h1 := ?_) ?he ?_  | (refine DrP.put (d := ?_) (op := ?_) (t := ?_) (p := ?_) (a := ?_) (v := ?_) (h1 := ?_) ?ho ?hd ?he ?_; (case ho => rfl)) | (refine DrP.eff (op := ?_) (t := ?_) (p := ?_) (a := ?_) (v := ?_) (h1 := ?_) ?ho ?he ?_; (case ho => rfl)) | refine DGuardP.yes (v := ?_) (h1 := ?_) ?he ?_); (try case hd => rfl); (case he => intro run; ((try simp only [evOp, evA, val, vals, oval, parts, get_set, get_nil, ofArgs, ofValue, binOpE, arith, convertE, unOpE, builtinE, callV, List.nil_append, List.append_nil, Option.bind_some, Option.map_some, Nat.reduceEqDiff, reduceIte, Bool.not_true, Bool.not_false, List.getElem?_cons_zero, List.getElem?_cons_succ, List.getElem?_toArray, Array.toList, List.mapM_cons, List.mapM_nil, Option.pure_def, Option.bind_eq_bind, show ilt 12 (Int.ofNat ws.length) = false from f1, hlen, LV.cells, hbx, hc1, hat, q1, q2, q3, q4, under5, under3, w1, w2, w3, w4, bfalse, hsl, hc2, htake, happ, call23_8]) <;> exact rfl)))  | ((first | refine OpsP.guard (x := ?_) (b := ?_) ?hj ?hx ?hd ?_ | (refine DrP.guard (d := ?_) (op := ?_) (t := ?_) (p := ?_) (a := ?_) (j := ?_) (w := ?_) (x := ?_) (b := ?_) ?ho ?hj ?hx ?hd ?_; (case ho => rfl)) | refine EvP.condB (c := ?_) ?hx ?_); (try case hj => rfl); (case hx => ((try simp only [val, get_set, get_nil, ofArgs, ofValue, Nat.reduceEqDiff, reduceIte, Option.map_some, show ilt 12 (Int.ofNat ws.length) = false from f1, hlen, LV.cells, hbx, hc1, hat, q1, q2, q3, q4, under5, under3, w1, w2, w3, w4, bfalse, hsl, hc2, htake, happ, call23_8]) <;> exact rfl)); (try case hd => rfl)))
      refine ⟨_, rfl, ?_⟩
      simp only [oneOf, get_set, Nat.reduceEqDiff, reduceIte]
    · have : j = ws.length := by omega
      subst this
      rw [hm] at happ
      have q5 : ieq (Int.ofNat ws.length) (-1) = false := rfl
      have q6 : ieq (Int.ofNat ws.length) (Int.ofNat ws.length) = true := by show Nat.beq _ _ = true; rw [beq_eq]; simp
      have chk_ : True := by simp only [show ilt 12 (Int.ofNat ws.length) = false from f1, hlen, LV.cells, hbx, hc1, hat, q1, q2, q3, q4, under5, under3, w1, w2, w3, w4, bfalse, hsl, hc2, htake, happ, q5, q6, call23_8]
      clear chk_
      repeat (first | refine EvP.seq ?_ | refine EvP.region ?_ | refine OpsP.nil ?_ | refine GuardP.no ?_ | refine DGuardP.no ?_ | refine DrP.nil ?_ | refine CondP.t ?_ | refine CondP.f ?_ | refine EvP.ret ?_ | refine EvP.skip ?_ | refine EvP.exit ?_ | refine EvP.block ?_ | refine EvP.scope ?_  | ((first | refine OpsP.put (v := ?_) (h1 := ?_) ?hd ?he ?_ | refine OpsP.eff (v := ?_) (h1 := ?_) ?he ?_ | refine GuardP.yes (v := ?_) (h1 := ?_) ?he ?_  | (refine DrP.put (d := ?_) (op := ?_) (t := ?_) (p := ?_) (a := ?_) (v := ?_) (h1 := ?_) ?ho ?hd ?he ?_; (case ho => rfl)) | (refine DrP.eff (op := ?_) (t := ?_) (p := ?_) (a := ?_) (v := ?_) (h1 := ?_) ?ho ?he ?_; (case ho => rfl)) | refine DGuardP.yes (v := ?_) (h1 := ?_) ?he ?_); (try case hd => rfl); (case he => intro run; ((try simp only [evOp, evA, val, vals, oval, parts, get_set, get_nil, ofArgs, ofValue, binOpE, arith, convertE, unOpE, builtinE, callV, List.nil_append, List.append_nil, Option.bind_some, Option.map_some, Nat.reduceEqDiff, reduceIte, Bool.not_true, Bool.not_false, List.getElem?_cons_zero, List.getElem?_cons_succ, List.getElem?_toArray, Array.toList, List.mapM_cons, List.mapM_nil, Option.pure_def, Option.bind_eq_bind, show ilt 12 (Int.ofNat ws.length) = false from f1, hlen, LV.cells, hbx, hc1, hat, q1, q2, q3, q4, under5, under3, w1, w2, w3, w4, bfalse, hsl, hc2, htake, happ, q5, q6, call23_8]) <;> exact rfl)))  | ((first | refine OpsP.guard (x := ?_) (b := ?_) ?hj ?hx ?hd ?_ | (refine DrP.guard (d := ?_) (op := ?_) (t := ?_) (p := ?_) (a := ?_) (j := ?_) (w := ?_) (x := ?_) (b := ?_) ?ho ?hj ?hx ?hd ?_; (case ho => rfl)) | refine EvP.condB (c := ?_) ?hx ?_); (try case hj => rfl); (case hx => ((try simp only [val, get_set, get_nil, ofArgs, ofValue, Nat.reduceEqDiff, reduceIte, Option.map_some, show ilt 12 (Int.ofNat ws.length) = false from f1, hlen, LV.cells, hbx, hc1, hat, q1, q2, q3, q4, under5, under3, w1, w2, w3, w4, bfalse, hsl, hc2, htake, happ, q5, q6, call23_8]) <;> exact rfl)); (try case hd => rfl)))
      refine ⟨_, rfl, ?_⟩
      simp only [oneOf, get_set, Nat.reduceEqDiff, reduceIte]
  · rw [hat] at htake happ
    have happ : checkN (ws ++ [(nm, fl, cs)]) = .ofNat i := happ
    have q1 : ilt (Int.ofNat i) (-1) = false := rfl
    have q2 : ilt (Int.ofNat i) (Int.ofNat ws.length) = true := by show Nat.blt _ _ = true; rw [blt_eq]; simp [hi]
    have q3 : ilt (Int.ofNat i) 0 = false := rfl
    have q4 : ieq (Int.ofNat i) (Int.ofNat i) = true := by show Nat.beq _ _ = true; rw [beq_eq]; simp
    by_cases hiK : i < K
    · have htake : checkN (ws.take K) = .ofNat i := by rw [htake]; exact if_pos hiK
      have q5 : ilt (Int.ofNat i) (Int.ofNat K) = true := by show Nat.blt _ _ = true; rw [blt_eq]; simp [hiK]
      have chk_ : True := by simp only [show ilt 12 (Int.ofNat ws.length) = false from f1, hlen, LV.cells, hbx, hc1, hat, q1, q2, q3, q4, under5, under3, w1, w2, w3, w4, bfalse, hsl, hc2, htake, q5, happ, call23_8]
      clear chk_
      repeat (first | refine EvP.seq ?_ | refine EvP.region ?_ | refine OpsP.nil ?_ | refine GuardP.no ?_ | refine DGuardP.no ?_ | refine DrP.nil ?_ | refine CondP.t ?_ | refine CondP.f ?_ | refine EvP.ret ?_ | refine EvP.skip ?_ | refine EvP.exit ?_ | refine EvP.block ?_ | refine EvP.scope ?_  | ((first | refine OpsP.put (v := ?_) (h1 := ?_) ?hd ?he ?_ | refine OpsP.eff (v := ?_) (h1 := ?_) ?he ?_ | refine GuardP.yes (v := ?_) (h1 := ?_) ?he ?_  | (refine DrP.put (d := ?_) (op := ?_) (t := ?_) (p := ?_) (a := ?_) (v := ?_) (h1 := ?_) ?ho ?hd ?he ?_; (case ho => rfl)) | (refine DrP.eff (op := ?_) (t := ?_) (p := ?_) (a := ?_) (v := ?_) (h1 := ?_) ?ho ?he ?_; (case ho => rfl)) | refine DGuardP.yes (v := ?_) (h1 := ?_) ?he ?_); (try case hd => rfl); (case he => intro run; ((try simp only [evOp, evA, val, vals, oval, parts, get_set, get_nil, ofArgs, ofValue, binOpE, arith, convertE, unOpE, builtinE, callV, List.nil_append, List.append_nil, Option.bind_some, Option.map_some, Nat.reduceEqDiff, reduceIte, Bool.not_true, Bool.not_false, List.getElem?_cons_zero, List.getElem?_cons_succ, List.getElem?_toArray, Array.toList, List.mapM_cons, List.mapM_nil, Option.pure_def, Option.bind_eq_bind, show ilt 12 (Int.ofNat ws.length) = false from f1, hlen, LV.cells, hbx, hc1, hat, q1, q2, q3, q4, under5, under3, w1, w2, w3, w4, bfalse, hsl, hc2, htake, q5, happ, call23_8]) <;> exact rfl)))  | ((first | refine OpsP.guard (x := ?_) (b := ?_) ?hj ?hx ?hd ?_ | (refine DrP.guard (d := ?_) (op := ?_) (t := ?_) (p := ?_) (a := ?_) (j := ?_) (w := ?_) (x := ?_) (b := ?_) ?ho ?hj ?hx ?hd ?_; (case ho => rfl)) | refine EvP.condB (c := ?_) ?hx ?_); (try case hj => rfl); (case hx => ((try simp only [val, get_set, get_nil, ofArgs, ofValue, Nat.reduceEqDiff, reduceIte, Option.map_some, show ilt 12 (Int.ofNat ws.length) = false from f1, hlen, LV.cells, hbx, hc1, hat, q1, q2, q3, q4, under5, under3, w1, w2, w3, w4, bfalse, hsl, hc2, htake, q5, happ, call23_8]) <;> exact rfl)); (try case hd => rfl)))
      refine EvP.draw (ks := [.makes, .reads, .writes, .reads, .makes, .writes, .writes, .reads]) (ms := [0, 0, 3, 0, 8, 31, 63, 127]) (ord := [0, 1, 3, 4, 2, 5, 6, 7]) ⟨rfl, rfl, by kernel_rfl, by kernel_rfl⟩ ?_
      have chk_ : True := by simp only [show ilt 12 (Int.ofNat ws.length) = false from f1, hlen, LV.cells, hbx, hc1, hat, q1, q2, q3, q4, under5, under3, w1, w2, w3, w4, bfalse, hsl, hc2, htake, bs30_0, hp1, ld1, bs1, hp2, ha1, ha2, hc3]
      clear chk_
      repeat (first | refine EvP.seq ?_ | refine EvP.region ?_ | refine OpsP.nil ?_ | refine GuardP.no ?_ | refine DGuardP.no ?_ | refine DrP.nil ?_ | refine CondP.t ?_ | refine CondP.f ?_ | refine EvP.ret ?_ | refine EvP.skip ?_ | refine EvP.exit ?_ | refine EvP.block ?_ | refine EvP.scope ?_  | ((first | refine OpsP.put (v := ?_) (h1 := ?_) ?hd ?he ?_ | refine OpsP.eff (v := ?_) (h1 := ?_) ?he ?_ | refine GuardP.yes (v := ?_) (h1 := ?_) ?he ?_  | (refine DrP.put (d := ?_) (op := ?_) (t := ?_) (p := ?_) (a := ?_) (v := ?_) (h1 := ?_) ?ho ?hd ?he ?_; (case ho => rfl)) | (refine DrP.eff (op := ?_) (t := ?_) (p := ?_) (a := ?_) (v := ?_) (h1 := ?_) ?ho ?he ?_; (case ho => rfl)) | refine DGuardP.yes (v := ?_) (h1 := ?_) ?he ?_); (try case hd => rfl); (case he => intro run; ((try simp only [evOp, evA, val, vals, oval, parts, get_set, get_nil, ofArgs, ofValue, binOpE, arith, convertE, unOpE, builtinE, callV, List.nil_append, List.append_nil, Option.bind_some, Option.map_some, Nat.reduceEqDiff, reduceIte, Bool.not_true, Bool.not_false, List.getElem?_cons_zero, List.getElem?_cons_succ, List.getElem?_toArray, Array.toList, List.mapM_cons, List.mapM_nil, Option.pure_def, Option.bind_eq_bind, show ilt 12 (Int.ofNat ws.length) = false from f1, hlen, LV.cells, hbx, hc1, hat, q1, q2, q3, q4, under5, under3, w1, w2, w3, w4, bfalse, hsl, hc2, htake, bs30_0, hp1, ld1, bs1, hp2, ha1, ha2, hc3]) <;> exact rfl)))  | ((first | refine OpsP.guard (x := ?_) (b := ?_) ?hj ?hx ?hd ?_ | (refine DrP.guard (d := ?_) (op := ?_) (t := ?_) (p := ?_) (a := ?_) (j := ?_) (w := ?_) (x := ?_) (b := ?_) ?ho ?hj ?hx ?hd ?_; (case ho => rfl)) | refine EvP.condB (c := ?_) ?hx ?_); (try case hj => rfl); (case hx => ((try simp only [val, get_set, get_nil, ofArgs, ofValue, Nat.reduceEqDiff, reduceIte, Option.map_some, show ilt 12 (Int.ofNat ws.length) = false from f1, hlen, LV.cells, hbx, hc1, hat, q1, q2, q3, q4, under5, under3, w1, w2, w3, w4, bfalse, hsl, hc2, htake, bs30_0, hp1, ld1, bs1, hp2, ha1, ha2, hc3]) <;> exact rfl)); (try case hd => rfl)))
      refine ⟨fun run => ?_, ?_⟩
      · simp only [chkAll, chkRec, stillB, List.getD_cons_zero, List.getD_cons_succ, List.getElem?_toArray, List.getElem?_cons_zero, List.getElem?_cons_succ, show bit 3 3 = false from rfl, show bit 31 3 = true from rfl, Bool.true_or, Bool.or_true, Bool.true_and, Bool.and_true, Bool.false_or, Bool.or_false, Bool.not_true, Bool.and_false, Bool.false_and]
        simp only [sameAt, evOp, val, get_set, Nat.reduceEqDiff, reduceIte, Option.bind_some, ldw h2 hg2, ldw h3 hg3, Option.map_some, hlv]
        rfl
      have chk_ : True := by simp only [show ilt 12 (Int.ofNat ws.length) = false from f1, hlen, LV.cells, hbx, hc1, hat, q1, q2, q3, q4, under5, under3, w1, w2, w3, w4, bfalse, hsl, hc2, htake, q5, happ, call23_8]
      clear chk_
      repeat (first | refine EvP.seq ?_ | refine EvP.region ?_ | refine OpsP.nil ?_ | refine GuardP.no ?_ | refine DGuardP.no ?_ | refine DrP.nil ?_ | refine CondP.t ?_ | refine CondP.f ?_ | refine EvP.ret ?_ | refine EvP.skip ?_ | refine EvP.exit ?_ | refine EvP.block ?_ | refine EvP.scope ?_  | ((first | refine OpsP.put (v := ?_) (h1 := ?_) ?hd ?he ?_ | refine OpsP.eff (v := ?_) (h1 := ?_) ?he ?_ | refine GuardP.yes (v := ?_) (h1 := ?_) ?he ?_  | (refine DrP.put (d := ?_) (op := ?_) (t := ?_) (p := ?_) (a := ?_) (v := ?_) (h1 := ?_) ?ho ?hd ?he ?_; (case ho => rfl)) | (refine DrP.eff (op := ?_) (t := ?_) (p := ?_) (a := ?_) (v := ?_) (h1 := ?_) ?ho ?he ?_; (case ho => rfl)) | refine DGuardP.yes (v := ?_) (h1 := ?_) ?he ?_); (try case hd => rfl); (case he => intro run; ((try simp only [evOp, evA, val, vals, oval, parts, get_set, get_nil, ofArgs, ofValue, binOpE, arith, convertE, unOpE, builtinE, callV, List.nil_append, List.append_nil, Option.bind_some, Option.map_some, Nat.reduceEqDiff, reduceIte, Bool.not_true, Bool.not_false, List.getElem?_cons_zero, List.getElem?_cons_succ, List.getElem?_toArray, Array.toList, List.mapM_cons, List.mapM_nil, Option.pure_def, Option.bind_eq_bind, show ilt 12 (Int.ofNat ws.length) = false from f1, hlen, LV.cells, hbx, hc1, hat, q1, q2, q3, q4, under5, under3, w1, w2, w3, w4, bfalse, hsl, hc2, htake, q5, happ, call23_8]) <;> exact rfl)))  | ((first | refine OpsP.guard (x := ?_) (b := ?_) ?hj ?hx ?hd ?_ | (refine DrP.guard (d := ?_) (op := ?_) (t := ?_) (p := ?_) (a := ?_) (j := ?_) (w := ?_) (x := ?_) (b := ?_) ?ho ?hj ?hx ?hd ?_; (case ho => rfl)) | refine EvP.condB (c := ?_) ?hx ?_); (try case hj => rfl); (case hx => ((try simp only [val, get_set, get_nil, ofArgs, ofValue, Nat.reduceEqDiff, reduceIte, Option.map_some, show ilt 12 (Int.ofNat ws.length) = false from f1, hlen, LV.cells, hbx, hc1, hat, q1, q2, q3, q4, under5, under3, w1, w2, w3, w4, bfalse, hsl, hc2, htake, q5, happ, call23_8]) <;> exact rfl)); (try case hd => rfl)))
      refine ⟨_, rfl, ?_⟩
      simp only [oneOf, get_set, Nat.reduceEqDiff, reduceIte]
    · have htake : checkN (ws.take K) = -1 := by rw [htake]; exact if_neg hiK
      have q5 : ilt (Int.ofNat i) (Int.ofNat K) = false := by show Nat.blt _ _ = false; rw [blt_eq, decide_eq_false_iff_not]; exact hiK
      have q6 : ieq (-1) (-1) = true := rfl
      have chk_ : True := by simp only [show ilt 12 (Int.ofNat ws.length) = false from f1, hlen, LV.cells, hbx, hc1, hat, q1, q2, q3, q4, under5, under3, w1, w2, w3, w4, bfalse, hsl, hc2, htake, q5, q6, happ, call23_8]
      clear chk_
      repeat (first | refine EvP.seq ?_ | refine EvP.region ?_ | refine OpsP.nil ?_ | refine GuardP.no ?_ | refine DGuardP.no ?_ | refine DrP.nil ?_ | refine CondP.t ?_ | refine CondP.f ?_ | refine EvP.ret ?_ | refine EvP.skip ?_ | refine EvP.exit ?_ | refine EvP.block ?_ | refine EvP.scope ?_  | ((first | refine OpsP.put (v := ?_) (h1 := ?_) ?hd ?he ?_ | refine OpsP.eff (v := ?_) (h1 := ?_) ?he ?_ | refine GuardP.yes (v := ?_) (h1 := ?_) ?he ?_  | (refine DrP.put (d := ?_) (op := ?_) (t := ?_) (p := ?_) (a := ?_) (v := ?_) (h1 := ?_) ?ho ?hd ?he ?_; (case ho => rfl)) | (refine DrP.eff (op := ?_) (t := ?_) (p := ?_) (a := ?_) (v := ?_) (h1 := ?_) ?ho ?he ?_; (case ho => rfl)) | refine DGuardP.yes (v := ?_) (h1 := ?_) ?he ?_); (try case hd => rfl); (case he => intro run; ((try simp only [evOp, evA, val, vals, oval, parts, get_set, get_nil, ofArgs, ofValue, binOpE, arith, convertE, unOpE, builtinE, callV, List.nil_append, List.append_nil, Option.bind_some, Option.map_some, Nat.reduceEqDiff, reduceIte, Bool.not_true, Bool.not_false, List.getElem?_cons_zero, List.getElem?_cons_succ, List.getElem?_toArray, Array.toList, List.mapM_cons, List.mapM_nil, Option.pure_def, Option.bind_eq_bind, show ilt 12 (Int.ofNat ws.length) = false from f1, hlen, LV.cells, hbx, hc1, hat, q1, q2, q3, q4, under5, under3, w1, w2, w3, w4, bfalse, hsl, hc2, htake, q5, q6, happ, call23_8]) <;> exact rfl)))  | ((first | refine OpsP.guard (x := ?_) (b := ?_) ?hj ?hx ?hd ?_ | (refine DrP.guard (d := ?_) (op := ?_) (t := ?_) (p := ?_) (a := ?_) (j := ?_) (w := ?_) (x := ?_) (b := ?_) ?ho ?hj ?hx ?hd ?_; (case ho => rfl)) | refine EvP.condB (c := ?_) ?hx ?_); (try case hj => rfl); (case hx => ((try simp only [val, get_set, get_nil, ofArgs, ofValue, Nat.reduceEqDiff, reduceIte, Option.map_some, show ilt 12 (Int.ofNat ws.length) = false from f1, hlen, LV.cells, hbx, hc1, hat, q1, q2, q3, q4, under5, under3, w1, w2, w3, w4, bfalse, hsl, hc2, htake, q5, q6, happ, call23_8]) <;> exact rfl)); (try case hd => rfl)))
      refine EvP.draw (ks := [.makes, .reads, .writes, .reads, .makes, .writes, .writes, .reads]) (ms := [0, 0, 3, 0, 8, 31, 63, 127]) (ord := [0, 1, 3, 4, 2, 5, 6, 7]) ⟨rfl, rfl, by kernel_rfl, by kernel_rfl⟩ ?_
      have chk_ : True := by simp only [show ilt 12 (Int.ofNat ws.length) = false from f1, hlen, LV.cells, hbx, hc1, hat, q1, q2, q3, q4, under5, under3, w1, w2, w3, w4, bfalse, hsl, hc2, htake, bs30_0, hp1, ld1, bs1, hp2, ha1, ha2, hc3]
      clear chk_
      repeat (first | refine EvP.seq ?_ | refine EvP.region ?_ | refine OpsP.nil ?_ | refine GuardP.no ?_ | refine DGuardP.no ?_ | refine DrP.nil ?_ | refine CondP.t ?_ | refine CondP.f ?_ | refine EvP.ret ?_ | refine EvP.skip ?_ | refine EvP.exit ?_ | refine EvP.block ?_ | refine EvP.scope ?_  | ((first | refine OpsP.put (v := ?_) (h1 := ?_) ?hd ?he ?_ | refine OpsP.eff (v := ?_) (h1 := ?_) ?he ?_ | refine GuardP.yes (v := ?_) (h1 := ?_) ?he ?_  | (refine DrP.put (d := ?_) (op := ?_) (t := ?_) (p := ?_) (a := ?_) (v := ?_) (h1 := ?_) ?ho ?hd ?he ?_; (case ho => rfl)) | (refine DrP.eff (op := ?_) (t := ?_) (p := ?_) (a := ?_) (v := ?_) (h1 := ?_) ?ho ?he ?_; (case ho => rfl)) | refine DGuardP.yes (v := ?_) (h1 := ?_) ?he ?_); (try case hd => rfl); (case he => intro run; ((try simp only [evOp, evA, val, vals, oval, parts, get_set, get_nil, ofArgs, ofValue, binOpE, arith, convertE, unOpE, builtinE, callV, List.nil_append, List.append_nil, Option.bind_some, Option.map_some, Nat.reduceEqDiff, reduceIte, Bool.not_true, Bool.not_false, List.getElem?_cons_zero, List.getElem?_cons_succ, List.getElem?_toArray, Array.toList, List.mapM_cons, List.mapM_nil, Option.pure_def, Option.bind_eq_bind, show ilt 12 (Int.ofNat ws.length) = false from f1, hlen, LV.cells, hbx, hc1, hat, q1, q2, q3, q4, under5, under3, w1, w2, w3, w4, bfalse, hsl, hc2, htake, bs30_0, hp1, ld1, bs1, hp2, ha1, ha2, hc3]) <;> exact rfl)))  | ((first | refine OpsP.guard (x := ?_) (b := ?_) ?hj ?hx ?hd ?_ | (refine DrP.guard (d := ?_) (op := ?_) (t := ?_) (p := ?_) (a := ?_) (j := ?_) (w := ?_) (x := ?_) (b := ?_) ?ho ?hj ?hx ?hd ?_; (case ho => rfl)) | refine EvP.condB (c := ?_) ?hx ?_); (try case hj => rfl); (case hx => ((try simp only [val, get_set, get_nil, ofArgs, ofValue, Nat.reduceEqDiff, reduceIte, Option.map_some, show ilt 12 (Int.ofNat ws.length) = false from f1, hlen, LV.cells, hbx, hc1, hat, q1, q2, q3, q4, under5, under3, w1, w2, w3, w4, bfalse, hsl, hc2, htake, bs30_0, hp1, ld1, bs1, hp2, ha1, ha2, hc3]) <;> exact rfl)); (try case hd => rfl)))
      refine ⟨fun run => ?_, ?_⟩
      · simp only [chkAll, chkRec, stillB, List.getD_cons_zero, List.getD_cons_succ, List.getElem?_toArray, List.getElem?_cons_zero, List.getElem?_cons_succ, show bit 3 3 = false from rfl, show bit 31 3 = true from rfl, Bool.true_or, Bool.or_true, Bool.true_and, Bool.and_true, Bool.false_or, Bool.or_false, Bool.not_true, Bool.and_false, Bool.false_and]
        simp only [sameAt, evOp, val, get_set, Nat.reduceEqDiff, reduceIte, Option.bind_some, ldw h2 hg2, ldw h3 hg3, Option.map_some, hlv]
        rfl
      have chk_ : True := by simp only [show ilt 12 (Int.ofNat ws.length) = false from f1, hlen, LV.cells, hbx, hc1, hat, q1, q2, q3, q4, under5, under3, w1, w2, w3, w4, bfalse, hsl, hc2, htake, q5, q6, happ, call23_8]
      clear chk_
      repeat (first | refine EvP.seq ?_ | refine EvP.region ?_ | refine OpsP.nil ?_ | refine GuardP.no ?_ | refine DGuardP.no ?_ | refine DrP.nil ?_ | refine CondP.t ?_ | refine CondP.f ?_ | refine EvP.ret ?_ | refine EvP.skip ?_ | refine EvP.exit ?_ | refine EvP.block ?_ | refine EvP.scope ?_  | ((first | refine OpsP.put (v := ?_) (h1 := ?_) ?hd ?he ?_ | refine OpsP.eff (v := ?_) (h1 := ?_) ?he ?_ | refine GuardP.yes (v := ?_) (h1 := ?_) ?he ?_  | (refine DrP.put (d := ?_) (op := ?_) (t := ?_) (p := ?_) (a := ?_) (v := ?_) (h1 := ?_) ?ho ?hd ?he ?_; (case ho => rfl)) | (refine DrP.eff (op := ?_) (t := ?_) (p := ?_) (a := ?_) (v := ?_) (h1 := ?_) ?ho ?he ?_; (case ho => rfl)) | refine DGuardP.yes (v := ?_) (h1 := ?_) ?he ?_); (try case hd => rfl); (case he => intro run; ((try simp only [evOp, evA, val, vals, oval, parts, get_set, get_nil, ofArgs, ofValue, binOpE, arith, convertE, unOpE, builtinE, callV, List.nil_append, List.append_nil, Option.bind_some, Option.map_some, Nat.reduceEqDiff, reduceIte, Bool.not_true, Bool.not_false, List.getElem?_cons_zero, List.getElem?_cons_succ, List.getElem?_toArray, Array.toList, List.mapM_cons, List.mapM_nil, Option.pure_def, Option.bind_eq_bind, show ilt 12 (Int.ofNat ws.length) = false from f1, hlen, LV.cells, hbx, hc1, hat, q1, q2, q3, q4, under5, under3, w1, w2, w3, w4, bfalse, hsl, hc2, htake, q5, q6, happ, call23_8]) <;> exact rfl)))  | ((first | refine OpsP.guard (x := ?_) (b := ?_) ?hj ?hx ?hd ?_ | (refine DrP.guard (d := ?_) (op := ?_) (t := ?_) (p := ?_) (a := ?_) (j := ?_) (w := ?_) (x := ?_) (b := ?_) ?ho ?hj ?hx ?hd ?_; (case ho => rfl)) | refine EvP.condB (c := ?_) ?hx ?_); (try case hj => rfl); (case hx => ((try simp only [val, get_set, get_nil, ofArgs, ofValue, Nat.reduceEqDiff, reduceIte, Option.map_some, show ilt 12 (Int.ofNat ws.length) = false from f1, hlen, LV.cells, hbx, hc1, hat, q1, q2, q3, q4, under5, under3, w1, w2, w3, w4, bfalse, hsl, hc2, htake, q5, q6, happ, call23_8]) <;> exact rfl)); (try case hd => rfl)))
      refine ⟨_, rfl, ?_⟩
      simp only [oneOf, get_set, Nat.reduceEqDiff, reduceIte]
theorem u8_arg {d B : Nat} {c : LV} (hc : Arg Try.prog B (d + 1) 5 c) : ∃ x, c = .int .u8 (.ofNat x) ∧ x < 256 := by
  obtain ⟨i, e, hw⟩ : ∃ i, [c] = [LV.int .u8 i] ∧ (Lit.int .u8 i).wf = true := by
    have hr : rowT Try.prog 5 = false := by kernel_rfl
    unfold Arg at hc
    rw [hr] at hc
    simpa only [Shp, under5] using hc
  cases e
  have hi : 0 ≤ i ∧ i ≤ 255 := by simpa [Lit.wf, IntKind.min, IntKind.max, IntKind.signed, IntKind.bits] using hw
  obtain ⟨x, rfl⟩ := Int.eq_ofNat_of_zero_le hi.1
  exact ⟨x, rfl, by omega⟩
theorem law_words (us : List LV) (h : Args Try.prog 1048576 6 [30, 32, 5] us) : ∃ k h1, evF Try.prog ov23 k 4 us Heap.empty = some (.bool true, h1) := by
  match us, h with
  | [l, w, c], ⟨hl, hw, hc, _⟩ =>
    obtain ⟨n, hla, hL⟩ := words_arg (by decide) hl
    obtain ⟨nm, fl, cd, cs, rfl, hcd, hs, hfl, hcs⟩ := word_arg (by decide) hw
    obtain ⟨x, rfl, hx⟩ := u8_arg hc
    have done : (∃ r h1, Evc Try.prog ov23 4 [l, .agg [.str nm, .int .u8 (.ofNat fl), cd], .int .u8 (.ofNat x)] Heap.empty (r, h1) ∧ r = .bool true) := by
      by_cases hn : 12 < n
      · exact words_long l _ _ n hla hn
      · obtain ⟨ws, h1, h2⟩ := hL (by omega)
        exact words_body l ws h1 (by omega) nm fl cd cs hcd hs hfl hcs x hx
    obtain ⟨r, h1, ⟨K, hK⟩, rfl⟩ := done
    exact ⟨K, h1, hK K (Nat.le_refl _)⟩
end Go.Ev
