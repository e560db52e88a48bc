/-
  What PrimCalls computes, as a plain law, and walked by the evaluator: true for all that can be handed in; no conditions.
-/
import Derived.Test.YtmgmglfdoffggaaPrG
import Derived.Test.YtmgmglfdoffggaaEvC
namespace Go.Ev
open Go.Proofs
set_option linter.unusedSimpArgs false
set_option linter.unusedVariables false
set_option maxHeartbeats 2000000
/-! ## PrimCalls: the plain law -/
def xW : Wd := ([120], 0, [101])
def yCode (cl : List Nat) (place : Nat) : List Nat := (cl.map fun c => 256 + c % 30) ++ [104, place, 101]
def yW (cl : List Nat) (place : Nat) : Wd := ([121], 0, yCode cl place)
def callsW (n : Nat) (cl : List Nat) (place : Nat) : List Wd := List.replicate n xW ++ [yW cl place]
theorem starts_calls : ∀ (cl : List Nat), startsN (cl.map fun c => 256 + c % 30) = some (List.range cl.length)
  | [] => rfl
  | c :: cl => by
    have h1 : startsN [256 + c % 30] = some [0] := by
      have : insN [256 + c % 30] = 1 := by simp only [insN, if_pos (show 256 ≤ 256 + c % 30 by omega)]
      show startsF 1 0 [256 + c % 30] = _
      rw [startsF_step (by simp) this]
      rfl
    have h2 := startsN_app h1 (cl.map fun c => 256 + c % 30)
    rw [starts_calls cl] at h2
    rw [List.map_cons, show (256 + c % 30) :: (cl.map fun c => 256 + c % 30) = [256 + c % 30] ++ (cl.map fun c => 256 + c % 30) from rfl, h2]
    simp only [Option.map_some, List.length_cons, List.length_nil, Nat.zero_add]
    rw [show cl.length + 1 = 1 + cl.length by omega, List.range_add]
    simp only [List.range_one, Option.some.injEq]
    congr 1
    apply List.map_congr_left
    intro a _
    omega
theorem starts_tail (place : Nat) : startsN [104, place, 101] = some [0, 2] := by kernel_rfl
theorem starts_y (cl : List Nat) (place : Nat) : startsN (yCode cl place) = some (List.range cl.length ++ [cl.length, cl.length + 2]) := by
  unfold yCode
  rw [startsN_app (starts_calls cl), starts_tail]
  simp only [Option.map_some, List.map_cons, List.map_nil, List.length_map, Nat.zero_add]
  rw [Nat.add_comm 2]
theorem wordB_x {ws : List Wd} {i : Nat} (h : ws[i]? = some xW) : wordB ws i = true := by
  have h1 : startsN xW.2.2 = some [0] := by decide +kernel
  have h2 : rightW xW.1 xW.2.1 xW.2.2.length = true := by decide +kernel
  have h3 : instB ws i [101] = true := by
    have h4 : jumpsN 101 = false := by decide +kernel
    simp only [instB, h4, show ¬ 256 ≤ 101 by decide, show ¬ (101 = 139) by decide, if_false, Bool.false_eq_true]
  have h5 : ([0].all fun at_ => instB ws i (xW.2.2.drop at_)) = true := by
    show (instB ws i [101] && true) = true
    rw [h3]; rfl
  simp only [wordB, h, h1, h2, h5]
  decide
theorem calls_get (n : Nat) (cl : List Nat) (place i : Nat) (hi : i < n) : (callsW n cl place)[i]? = some xW := by
  unfold callsW
  rw [List.getElem?_append_left (by simpa using hi)]
  simp [hi]
theorem calls_get_y (n : Nat) (cl : List Nat) (place : Nat) : (callsW n cl place)[n]? = some (yW cl place) := by
  unfold callsW
  rw [List.getElem?_append_right (by simp)]
  simp
theorem checkFrom_all (ws : List Wd) : ∀ (k i : Nat), (∀ j, i ≤ j → j < i + k → wordB ws j = true) → checkFrom ws k i = -1
  | 0, _, _ => rfl
  | k + 1, i, h => by
    rw [checkFrom_true (h i (Nat.le_refl _) (by omega))]
    exact checkFrom_all ws k (i + 1) fun j h1 h2 => h j (by omega) (by omega)
theorem wordB_y (n : Nat) (cl : List Nat) (place : Nat) (hk : cl.length ≤ 12) : wordB (callsW n cl place) n = ((cl.all fun c => decide (c % 30 ≤ n)) && (decide (place ≤ cl.length) || decide (place = cl.length + 2))) := by
  have hl : (yCode cl place).length = cl.length + 3 := by simp [yCode]
  have h2 : rightW (yW cl place).1 (yW cl place).2.1 (yW cl place).2.2.length = true := by
    show rightW [121] 0 (yCode cl place).length = true
    have h1 : Nat.blt 1000 (yCode cl place).length = false := by rw [blt_eq, decide_eq_false_iff_not]; omega
    simp only [rightW, h1]
    decide +kernel
  have h3 : (yW cl place).2.2.getD ((List.range cl.length ++ [cl.length, cl.length + 2]).getD ((List.range cl.length ++ [cl.length, cl.length + 2]).length - 1) 0) 0 = 101 := by
    have e1 : (List.range cl.length ++ [cl.length, cl.length + 2]).getD ((List.range cl.length ++ [cl.length, cl.length + 2]).length - 1) 0 = cl.length + 2 := by
      rw [List.getD_eq_getElem?_getD, List.getElem?_append_right (by simp)]
      simp
    rw [e1, List.getD_eq_getElem?_getD]
    show ((yCode cl place)[cl.length + 2]?).getD 0 = 101
    unfold yCode
    rw [List.getElem?_append_right (by simp)]
    simp
  have h4 : (List.range cl.length ++ [cl.length, cl.length + 2]).isEmpty = false := by simp
  have hso : startsOf (callsW n cl place) n = List.range cl.length ++ [cl.length, cl.length + 2] := by
    simp only [startsOf, calls_get_y]
    show (startsN (yCode cl place)).getD [] = _
    rw [starts_y]; rfl
  have h5 : ((List.range cl.length).all fun at_ => instB (callsW n cl place) n ((yCode cl place).drop at_)) = (cl.all fun c => decide (c % 30 ≤ n)) := by
    rw [Bool.eq_iff_iff, List.all_eq_true, List.all_eq_true]
    have each : ∀ at_ (h : at_ < cl.length), instB (callsW n cl place) n ((yCode cl place).drop at_) = decide (cl[at_] % 30 ≤ n) := by
      intro at_ h
      have : (yCode cl place).drop at_ = (256 + cl[at_] % 30) :: ((yCode cl place).drop (at_ + 1)) := by
        rw [List.drop_eq_getElem_cons (by omega)]
        congr 1
        simp only [yCode]
        rw [List.getElem_append_left (by simpa using h)]
        simp
      rw [this]
      simp only [instB, if_pos (show 256 ≤ 256 + cl[at_] % 30 by omega)]
      rw [show 256 + cl[at_] % 30 - 256 = cl[at_] % 30 by omega]
    constructor
    · intro h c hc
      obtain ⟨i, hi, rfl⟩ := List.getElem_of_mem hc
      rw [← each i hi]
      exact h i (by simpa using hi)
    · intro h i hi
      have hi' : i < cl.length := by simpa using hi
      rw [each i hi']
      exact h _ (List.getElem_mem hi')
  have h6 : instB (callsW n cl place) n ((yCode cl place).drop cl.length) = (decide (place ≤ cl.length) || decide (place = cl.length + 2)) := by
    have : (yCode cl place).drop cl.length = [104, place, 101] := by
      unfold yCode
      rw [List.drop_append_of_le_length (by simp), List.drop_eq_nil_of_le (by simp), List.nil_append]
    rw [this]
    have hj : jumpsN 104 = true := by decide +kernel
    simp only [instB, hj, show ¬ 256 ≤ 104 by decide, if_false, reduceIte, placeB, hso]
    rw [Bool.eq_iff_iff]
    simp
    omega
  have h7 : instB (callsW n cl place) n ((yCode cl place).drop (cl.length + 2)) = true := by
    have : (yCode cl place).drop (cl.length + 2) = [101] := by
      unfold yCode
      rw [List.drop_append]
      simp
    rw [this]
    have h4 : jumpsN 101 = false := by decide +kernel
    simp only [instB, h4, show ¬ 256 ≤ 101 by decide, show ¬ (101 = 139) by decide, if_false, Bool.false_eq_true]
  simp only [wordB, calls_get_y]
  rw [show startsN (yW cl place).2.2 = _ from starts_y cl place]
  simp only [h2, h3, h4, decide_true, Bool.not_false, Bool.true_and, List.all_append, List.all_cons, List.all_nil, Bool.and_true]
  show (((List.range cl.length).all fun at_ => instB (callsW n cl place) n ((yCode cl place).drop at_)) && (instB (callsW n cl place) n ((yCode cl place).drop cl.length) && instB (callsW n cl place) n ((yCode cl place).drop (cl.length + 2)))) = _
  rw [h5, h6, h7, Bool.and_true]
theorem check_calls (n : Nat) (cl : List Nat) (place : Nat) (hk : cl.length ≤ 12) : checkN (callsW n cl place) = (match (cl.all fun c => decide (c % 30 ≤ n)) && (decide (place ≤ cl.length) || decide (place = cl.length + 2)) with | true => -1 | false => .ofNat n) := by
  have hl : (callsW n cl place).length = n + 1 := by simp [callsW]
  unfold checkN
  rw [hl, checkFrom_add, checkFrom_all _ n 0 fun j _ h => wordB_x (calls_get n cl place j (by omega))]
  show checkFrom (callsW n cl place) 1 (0 + n) = _
  rw [Nat.zero_add]
  simp only [checkFrom, wordB_y n cl place hk]
  cases ((cl.all fun c => decide (c % 30 ≤ n)) && (decide (place ≤ cl.length) || decide (place = cl.length + 2))) <;> rfl
end Go.Ev

namespace Go.Ev
open Go.Proofs
set_option linter.unusedSimpArgs false
set_option linter.unusedVariables false
set_option maxHeartbeats 4000000
/-! what a row of words shows when it is read by value -/
def FzK (h : Heap) (c c' : LV) : Prop := ∀ h', (∀ b, c.blk = some b → h'.get b = h.get b) → freezeV h' 9 c = some c'
theorem FzK.keep {h h' : Heap} {c c' : LV} (k : FzK h c c') (hk : ∀ b, c.blk = some b → h'.get b = h.get b) : FzK h' c c' := fun h2 h3 => k h2 fun b e => (h3 b e).trans (hk b e)
theorem FzK.bare {h : Heap} {c : LV} (hb : bareV 9 c = true) : FzK h c c := fun h' _ => freeze_bare h' 9 c hb
theorem FzK.code {h : Heap} {v : LV} {n : Nat} {cs : List Nat} (ho : Own h 1 v n (u32s cs)) (hl : n < 2 ^ 40) : ∃ c', FzK h v c' ∧ codeOf c' = some cs := by
  have h1 := ho.len
  have h0 := ho
  generalize hgen : u32s cs = cells at ho
  cases ho with
  | nils =>
    have : cs = [] := by simpa [u32s] using hgen
    subst this
    exact ⟨.nils, fun h' _ => rfl, rfl⟩
  | @row b g o _ cap _ _ _ hb hn hc hcells =>
    refine ⟨.vs (u32s cs) n, fun h' hk => ?_, ?_⟩
    · have hv := (h0.keep hk).view
      rw [freezeV_slice h' 8, hv, Option.bind_some, mapM_bare h' 8 _ (u32s_bare cs 7), Option.map_some]
    · simp only [codeOf]
      rw [if_pos ⟨by omega, hl⟩, mapM_u32s]
def FzL (h : Heap) : List LV → List LV → Prop
  | [], [] => True
  | c :: cs, d :: ds => FzK h c d ∧ FzL h cs ds
  | _, _ => False
theorem FzL.keep {h h' : Heap} : ∀ {cs ds : List LV}, FzL h cs ds → (∀ c ∈ cs, ∀ b, c.blk = some b → h'.get b = h.get b) → FzL h' cs ds
  | [], [], _, _ => trivial
  | c :: cs, d :: ds, k, hk => ⟨k.1.keep (hk c (List.mem_cons_self ..)), FzL.keep k.2 fun x hx => hk x (List.mem_cons_of_mem _ hx)⟩
  | [], _ :: _, k, _ => k.elim
  | _ :: _, [], k, _ => k.elim
theorem FzL.app {h : Heap} : ∀ {cs ds cs' ds' : List LV}, FzL h cs ds → FzL h cs' ds' → FzL h (cs ++ cs') (ds ++ ds')
  | [], [], _, _, _, k => k
  | c :: cs, d :: ds, _, _, k, k' => ⟨k.1, FzL.app k.2 k'⟩
  | [], _ :: _, _, _, k, _ => k.elim
  | _ :: _, [], _, _, k, _ => k.elim
theorem FzL.mapM {h : Heap} : ∀ {cs ds : List LV}, FzL h cs ds → cs.mapM (freezeV h 9) = some ds
  | [], [], _ => rfl
  | c :: cs, d :: ds, k => by
    rw [List.mapM_cons, k.1 h (fun _ _ => rfl), FzL.mapM k.2]; rfl
  | [], _ :: _, k => k.elim
  | _ :: _, [], k => k.elim
theorem FzL.len {h : Heap} : ∀ {cs ds : List LV}, FzL h cs ds → cs.length = ds.length
  | [], [], _ => rfl
  | c :: cs, d :: ds, k => by simp [FzL.len k.2]
  | [], _ :: _, k => k.elim
  | _ :: _, [], k => k.elim
theorem Own.wordsF {h : Heap} {v : LV} {n : Nat} {cells cells' : List LV} {ws : List Wd} (ho : Own h 3 v n cells) (hf : FzL h cells cells') (hp : parseW cells' = some ws) (hl : n < 1048576) : WordsV h v ws := by
  have h1 := ho.len
  have hv := ho.view
  have h2 := parse_len hp
  have h3 := hf.len
  cases ho with
  | nils =>
    refine ⟨.nils, rfl, ?_⟩
    have : ws = [] := by cases ws with
      | nil => rfl
      | cons w ws => simp at h1 h2 h3; omega
    subst this; rfl
  | @row b g o _ cap _ _ _ hb hn hc hcells =>
    refine ⟨.vs cells' n, ?_, ?_⟩
    · rw [freezeV_slice h 9, hv, Option.bind_some, hf.mapM, Option.map_some]
    · simp only [wordsOf, hp, Option.bind_some]
      rw [if_pos ⟨by omega, hl⟩]
/-! bytes that were handed in -/
def Bytes8 (v : LV) (cs : List Nat) : Prop := (v = .nils ∧ cs = []) ∨ v = .vs (u8s cs) cs.length
theorem under35 : Try.prog.underlying 35 = some (.slice 5) := by kernel_rfl
theorem rowT35 : rowT Try.prog 35 = false := by kernel_rfl
theorem bytes_arg {d B : Nat} {a : LV} (h : Arg Try.prog B (d + 2) 35 a) : ∃ cs, Bytes8 a cs ∧ ∀ x ∈ cs, x < 256 := by
  unfold Arg at h
  rw [rowT35] at h
  simp only [Shp, under35] at h
  rcases h with h | ⟨els, h, hl, hels⟩
  · cases h; exact ⟨[], .inl ⟨rfl, rfl⟩, by simp⟩
  · cases h
    have : ∃ A : List Nat, els.flatten = u8s A ∧ A.length = els.length ∧ ∀ x ∈ A, x < 256 := by
      clear hl
      induction els with
      | nil => exact ⟨[], rfl, rfl, by simp⟩
      | cons el els ih =>
        obtain ⟨A, h1, h2, h3⟩ := ih fun e he => hels e (List.mem_cons_of_mem _ he)
        obtain ⟨k1, i, rfl, hw⟩ := (by simpa [cells5, under5] using hels el (List.mem_cons_self ..) : el.length = 1 ∧ ∃ i, el = [.int .u8 i] ∧ (Lit.int .u8 i).wf = true)
        have hi : 0 ≤ i ∧ i ≤ 255 := by simpa [Lit.wf, IntKind.min, IntKind.max, IntKind.signed, IntKind.bits] using hw
        obtain ⟨x, rfl⟩ := Int.eq_ofNat_of_zero_le hi.1
        refine ⟨x :: A, ?_, by simp [h2], ?_⟩
        · rw [List.flatten_cons, h1]; rfl
        · intro y hy
          rcases List.mem_cons.1 hy with rfl | hy
          · omega
          · exact h3 y hy
    obtain ⟨A, h1, h2, h3⟩ := this
    exact ⟨A, .inr (by rw [h1, h2]), h3⟩
theorem bytes_len {a : LV} {cs : List Nat} (h : Bytes8 a cs) (hp : Heap) : lenE Try.prog 35 a hp = some (.int .i64 (.ofNat cs.length)) := by
  rcases h with ⟨rfl, rfl⟩ | rfl
  · simp only [lenE, under35, lenOf?, Option.map_some]; rfl
  · simp only [lenE, under35, lenOf?, Option.map_some]
theorem bytes_take {a : LV} {cs : List Nat} (h : Bytes8 a cs) (K : Nat) (hK : K ≤ cs.length) : ∃ u, Bytes8 u (cs.take K) ∧ ∀ hp, sliceAtOp Try.prog 35 a none (some (.int .i64 (.ofNat K))) none hp = some u := by
  rcases h with ⟨rfl, rfl⟩ | rfl
  · have : K = 0 := by simpa using hK
    subst this
    exact ⟨.nils, .inl ⟨rfl, rfl⟩, fun hp => by simp only [sliceAtOp, under35, sz5, Option.bind_some]; rfl⟩
  · refine ⟨.vs (u8s (cs.take K)) K, .inr ?_, fun hp => ?_⟩
    · rw [List.length_take, Nat.min_eq_left hK]
    · have hb : bounds3 cs.length cs.length none (some (.int .i64 (.ofNat K))) none = some (0, K, none) := by
        have h1 : (Nat.ble K cs.length && Nat.ble 0 K) = true := by
          have a : Nat.ble K cs.length = true := by rw [ble_eq]; simp [hK]
          have b : Nat.ble 0 K = true := by rw [ble_eq]; simp
          rw [a, b]; rfl
        simp only [bounds3, optNat, asNat?, Option.bind_some, h1]
      simp only [sliceAtOp, under35, sz5, Option.bind_some, hb, Option.map_some]
      simp [u8s, List.map_take]
theorem bytes_at {cd : LV} {cs : List Nat} (h : Bytes8 cd cs) (i : Nat) (hi : i < cs.length) :
    ∃ p, indexAddrOp Try.prog 35 cd (.int .i64 (.ofNat i)) = some p ∧ ∀ hp, loadAt Try.prog 5 p hp = some (.int .u8 (.ofNat cs[i])) := by
  rcases h with ⟨rfl, rfl⟩ | rfl
  · simp at hi
  · refine ⟨.vptr ((u8s cs).drop (i * 1)), ?_, fun hp => ?_⟩
    · have h1 : Nat.blt i cs.length = true := by rw [blt_eq]; simp [hi]
      have h2 : Nat.ble (i * 1) (u8s cs).length = true := by rw [ble_eq]; simp [u8s]; omega
      simp only [indexAddrOp, asNat?, Option.bind_some, under35, sz5, h1, h2, Bool.and_self]
    · simp only [loadAt, agg5, Nat.mul_one]
      rw [List.head?_drop]
      simp [u8s, List.getElem?_eq_getElem hi]
/-! what the law makes -/
theorem bs22_1 (x : Int) : buildSliceA Try.prog 22 1 [(0, .int .u32 x)] = some (.row [.int .u32 x] 0 0, fun b => .slice b 0 0 1 (some 1) 1) := by kernel_rfl
theorem bs22_3 (x : Int) : buildSliceA Try.prog 22 3 [(0, .int .u32 104), (1, .int .u32 x), (2, .int .u32 101)] = some (.row [.int .u32 104, .int .u32 x, .int .u32 101] 0 0, fun b => .slice b 0 0 3 (some 3) 1) := by kernel_rfl
theorem build32x (b : Nat) : buildAt Try.prog 32 [(0, .str [120]), (2, .slice b 0 0 1 (some 1) 1)] = some (.agg [.str [120], .int .u8 0, .slice b 0 0 1 (some 1) 1]) := by kernel_rfl
theorem bs30_s (nm : List Nat) (b g o n es : Nat) (cap : Option Nat) : buildSliceA Try.prog 30 1 [(0, .agg [.str nm, .int .u8 0, .slice b g o n cap es])] = some (.row [.str nm, .int .u8 0, .slice b g o n cap es] 0 0, fun b => .slice b 0 0 1 (some 1) 3) := by kernel_rfl
theorem bs30_n (nm : List Nat) : buildSliceA Try.prog 30 1 [(0, .agg [.str nm, .int .u8 0, .nils])] = some (.row [.str nm, .int .u8 0, .nils] 0 0, fun b => .slice b 0 0 1 (some 1) 3) := by kernel_rfl
theorem bs30_own {h : Heap} {v : LV} {n : Nat} {cs : List LV} (ho : Own h 1 v n cs) (nm : List Nat) : buildSliceA Try.prog 30 1 [(0, .agg [.str nm, .int .u8 0, v])] = some (.row [.str nm, .int .u8 0, v] 0 0, fun b => .slice b 0 0 1 (some 1) 3) := by
  cases ho with
  | nils => exact bs30_n nm
  | row => exact bs30_s nm _ _ _ _ _ _
theorem own_cell {h : Heap} {es : Nat} {v : LV} {n : Nat} {cs : List LV} (ho : Own h es v n cs) : v.cells = [v] ∧ v.isCell = true := by cases ho <;> exact ⟨rfl, rfl⟩
theorem sz22 : szOf Try.prog 22 = some 1 := by kernel_rfl
theorem st22 {h h' : Heap} {es : Nat} {v w : LV} {n : Nat} {cs : List LV} {y : Nat} {nm : List Nat} (ho : Own h' es v n cs) (hy : h.get y = some (.row [.str nm, .int .u8 0, w] 0 0)) : storeAt Try.prog 22 (.ptr y 0 (0 + 2)) v h = some (h.set y (.row [.str nm, .int .u8 0, v] 0 0)) := by
  obtain ⟨k1, k2⟩ := own_cell ho
  have e1 : (Nat.beq [v].length 1 && [v].all LV.isCell) = true := by simp only [List.all_cons, k2, List.all_nil]; rfl
  simp only [storeAt, sz22, Option.bind_some, k1, e1, writeN, hy]
  rfl
def xcells : Nat → List LV
  | 0 => []
  | n + 1 => xcells n ++ [.str [120], .int .u8 0, .vs [.int .u32 101] 1]
theorem parse_x : ∀ n, parseW (xcells n) = some (List.replicate n xW)
  | 0 => rfl
  | n + 1 => by
    have h1 : parseW [.str [120], .int .u8 0, .vs [.int .u32 101] 1] = some [xW] := parse_one (nm := [120]) (fl := 0) (cs := [101]) rfl ⟨by simp, by decide⟩ (by decide) (by simp)
    have := parse_app _ _ _ _ (parse_x n) h1
    rw [List.replicate_succ']
    exact this
theorem min12 (n : Nat) : minmaxE false [.int .i64 (.ofNat n), .int .i64 12] = some (.int .i64 (.ofNat (min n 12))) := by
  have : pickMM false (.ofNat n) 12 = .ofNat (min n 12) := by
    show (match Nat.blt 12 n with | true => (12 : Int) | false => .ofNat n) = _
    rw [blt_eq]
    by_cases h : 12 < n
    · rw [decide_eq_true h, Nat.min_eq_right (by omega)]; rfl
    · rw [decide_eq_false h, Nat.min_eq_left (by omega)]
  simp only [minmaxE, minmaxFrom, this]
end Go.Ev

namespace Go.Ev
open Go.Proofs
set_option linter.unusedSimpArgs false
set_option linter.unusedVariables false
set_option maxHeartbeats 4000000
/-- The words so far. -/
structure XWords (h : Heap) (v : LV) (n : Nat) (cells : List LV) : Prop where
  own : Own h 3 v n cells
  fz : FzL h cells (xcells n)
  lt : ∀ b, v.blk = some b → b < h.next
  cl : ∀ c ∈ cells, ∀ b, c.blk = some b → b < h.next ∧ v.blk ≠ some b
theorem XWords.keep {h h' : Heap} {v : LV} {n : Nat} {cells : List LV} (x : XWords h v n cells) (hn : h.next ≤ h'.next) (hk : ∀ b, b < h.next → (v.blk = some b ∨ ∃ c ∈ cells, c.blk = some b) → h'.get b = h.get b) : XWords h' v n cells where
  own := x.own.keep fun b e => hk b (x.lt b e) (.inl e)
  fz := x.fz.keep fun c hc b e => hk b (x.cl c hc b e).1 (.inr ⟨c, hc, e⟩)
  lt := fun b e => Nat.lt_of_lt_of_le (x.lt b e) hn
  cl := fun c hc b e => ⟨Nat.lt_of_lt_of_le (x.cl c hc b e).1 hn, (x.cl c hc b e).2⟩
theorem own_len22 {h : Heap} {v : LV} {n : Nat} {cells : List LV} (ho : Own h 1 v n cells) (hp : Heap) : lenE Try.prog 22 v hp = some (.int .i64 (.ofNat n)) := by
  cases ho with
  | nils => simp only [lenE, under22, lenOf?, Option.map_some]
  | row hb hn hc hcells => simp only [lenE, under22, lenOf?, Option.map_some]
theorem build32y : buildAt Try.prog 32 [(0, .str [121])] = some (.agg [.str [121], .int .u8 0, .nils]) := by kernel_rfl
/-- The word that is being made. -/
structure YS (h : Heap) (v : LV) (n : Nat) (cells : List LV) (y : Nat) (cv : LV) (cl : List Nat) : Prop where
  xw : XWords h v n cells
  row : h.get y = some (.row [.str [121], .int .u8 0, cv] 0 0)
  own : Own h 1 cv cl.length (u32s cl)
  ylt : y < h.next
  yv : v.blk ≠ some y
  yc : ∀ c ∈ cells, c.blk ≠ some y
  cb : ∀ b, cv.blk = some b → b < h.next ∧ b ≠ y ∧ v.blk ≠ some b ∧ ∀ c ∈ cells, c.blk ≠ some b
theorem YS.ld {h : Heap} {v cv : LV} {n y : Nat} {cells : List LV} {cl : List Nat} (s : YS h v n cells y cv cl) : loadAt Try.prog 22 (.ptr y 0 (0 + 2)) h = some cv := by
  simp only [loadAt, agg22, readN, s.row, Option.bind_some]; rfl
theorem YS.ldw {h : Heap} {v cv : LV} {n y : Nat} {cells : List LV} {cl : List Nat} (s : YS h v n cells y cv cl) : loadAt Try.prog 32 (.ptr y 0 0) h = some (.agg [.str [121], .int .u8 0, cv]) := by
  simp only [loadAt, agg32, sz32, readN, s.row, Option.bind_some]; rfl
theorem YS.app {h : Heap} {v cv : LV} {n y : Nat} {cells : List LV} {cl : List Nat} (s : YS h v n cells y cv cl) (new : List Nat) (hl : cl.length + new.length < 1000) :
    ∃ cv' h', appendE Try.prog 22 (some 22) cv (.slice h.next 0 0 new.length (some new.length) 1) (h.new (.row (u32s new) 0 0)).2 = some (cv', h') ∧ storeAt Try.prog 22 (.ptr y 0 (0 + 2)) cv' h' = some (h'.set y (.row [.str [121], .int .u8 0, cv'] 0 0)) ∧
      YS (h'.set y (.row [.str [121], .int .u8 0, cv'] 0 0)) v n cells y cv' (cl ++ new) := by
  have hul : (u32s new).length = new.length := by simp [u32s]
  have hN : (h.new (.row (u32s new) 0 0)).2.next = h.next + 1 := rfl
  have keep1 : ∀ b, b < h.next → (h.new (.row (u32s new) 0 0)).2.get b = h.get b := fun b hb => by rw [hget_new, if_neg (by omega)]
  have hx : Own (h.new (.row (u32s new) 0 0)).2 1 (.slice h.next 0 0 new.length (some new.length) 1) new.length (u32s new) := Own.fresh _ (by omega) (some new.length) (fun c e => by cases e; rfl)
  obtain ⟨cv', h', ha, ho, hn, hk, hb⟩ := (s.own.keep fun b e => keep1 b (s.cb b e).1).append appT22 hx.lenOf hx.view (by omega) (u32s_cell new) (by show _ ≤ 70368744177664; omega) (by show _ ≤ 70368744177664; omega) (fun b e => by have := (s.cb b e).1; omega)
  have hy : h'.get y = some (.row [.str [121], .int .u8 0, cv] 0 0) := by
    rw [hk y (by have := s.ylt; omega) (fun e => (s.cb y e).2.1 rfl), keep1 y s.ylt, s.row]
  have hcv : ∀ b, cv'.blk = some b → b < h'.next ∧ b ≠ y ∧ v.blk ≠ some b ∧ ∀ c ∈ cells, c.blk ≠ some b := fun b e => by
    obtain ⟨k1, k2⟩ := hb b e
    refine ⟨k1, ?_⟩
    rcases k2 with k2 | k2
    · exact (s.cb b k2).2
    · refine ⟨by have := s.ylt; omega, fun e' => by have := s.xw.lt b e'; omega, fun c hc e' => by have := (s.xw.cl c hc b e').1; omega⟩
  have hcl : u32s cl ++ u32s new = u32s (cl ++ new) := by simp [u32s]
  have hx' : XWords (h'.set y (.row [.str [121], .int .u8 0, cv'] 0 0)) v n cells := s.xw.keep (by rw [hnext_set]; omega) fun b hb' hor => by
    have hby : y ≠ b := fun e => by
      subst e
      rcases hor with e' | ⟨c, hc, e'⟩
      · exact s.yv e'
      · exact s.yc c hc e'
    rw [hget_set, if_neg hby, hk b (by omega) ?_, keep1 b hb']
    intro e
    rcases hor with e' | ⟨c, hc, e'⟩
    · exact (s.cb b e).2.2.1 e'
    · exact (s.cb b e).2.2.2 c hc e'
  refine ⟨cv', h', ha, st22 ho hy, hx', by rw [hget_set, if_pos rfl], ?_, by rw [hnext_set]; have := s.ylt; omega, s.yv, s.yc, fun b e => ⟨by rw [hnext_set]; exact (hcv b e).1, (hcv b e).2⟩⟩
  rw [List.length_append, ← hcl]
  exact ho.keep fun b e => by rw [hget_set, if_neg (fun e' => (hcv b e).2.1 e'.symm)]
theorem calls_body (many to : Nat) (calls : LV) (cs : List Nat) (hcs : Bytes8 calls cs) (hb8 : ∀ x ∈ cs, x < 256) (hm : many < 256) (ht : to < 256) : ∃ r h1, Evc Try.prog ov23 5 [.int .u8 (.ofNat many), calls, .int .u8 (.ofNat to)] Heap.empty (r, h1) ∧ r = .bool true := by
  have hn : many % 21 < 21 := Nat.mod_lt _ (by decide)
  have hp : to % 20 < 20 := Nat.mod_lt _ (by decide)
  have a1 : (Int.ofNat many).tmod 21 = .ofNat (many % 21) := rfl
  have a2 : (Int.ofNat to).tmod 20 = .ofNat (to % 20) := rfl
  have z1 : ieq 21 0 = false := rfl
  have z2 : ieq 20 0 = false := rfl
  have z3 : ieq 30 0 = false := rfl
  have bfalse : (false = true) = False := by simp
  have btrue : (true = true) = True := by simp
  have c120 : List.map (fun x : UInt8 => x.toNat) [120] = [120] := rfl
  have c121 : List.map (fun x : UInt8 => x.toNat) [121] = [121] := rfl
  generalize many % 21 = n at *
  generalize to % 20 = place at *
  have w1 : wrap .i64 (Int.ofNat n) = .ofNat n := wrap_nat .i64 n (by simp only [half]; omega)
  have w2 : wrap .i64 (Int.ofNat place) = .ofNat place := wrap_nat .i64 place (by simp only [half]; omega)
  have w2u : wrap .u32 (Int.ofNat place) = .ofNat place := wrap_u .u32 rfl place (by simp only [pow2]; omega)
  refine Evc.of rfl Try.func5 rfl rfl ?_
  have chk_ : True := by simp only [z1, a1, bfalse, under5, under3, w1]
  clear chk_
  repeat (first | refine EvP.seq ?_ | refine EvP.region ?_ | refine OpsP.nil ?_ | refine GuardP.no ?_ | refine DGuardP.no ?_ | refine DrP.nil ?_ | refine CondP.t ?_ | refine CondP.f ?_ | refine EvP.ret ?_ | refine EvP.skip ?_ | refine EvP.exit ?_ | refine EvP.block ?_ | refine EvP.scope ?_  | ((first | refine OpsP.put (v := ?_) (h1 := ?_) ?hd ?he ?_ | refine OpsP.eff (v := ?_) (h1 := ?_) ?he ?_ | refine GuardP.yes (v := ?_) (h1 := ?_) ?he ?_  | (refine DrP.put (d := ?_) (op := ?_) (t := ?_) (p := ?_) (a := ?_) (v := ?_) (h1 := ?_) ?ho ?hd ?he ?_; (case ho => rfl)) | (refine DrP.eff (op := ?_) (t := ?_) (p := ?_) (a := ?_) (v := ?_) (h1 := ?_) ?ho ?he ?_; (case ho => rfl)) | refine DGuardP.yes (v := ?_) (h1 := ?_) ?he ?_); (try case hd => rfl); (case he => intro run; ((try simp only [evOp, evA, val, vals, oval, parts, get_set, get_nil, ofArgs, ofValue, binOpE, arith, ilt, convertE, unOpE, builtinE, lenE, callV, List.nil_append, List.append_nil, Option.bind_some, Option.map_some, Nat.reduceEqDiff, reduceIte, Bool.not_true, Bool.not_false, List.getElem?_cons_zero, List.getElem?_cons_succ, List.getElem?_toArray, Array.toList, List.mapM_cons, List.mapM_nil, Option.pure_def, Option.bind_eq_bind, z1, a1, bfalse, under5, under3, w1]) <;> exact rfl)))  | ((first | refine OpsP.guard (x := ?_) (b := ?_) ?hj ?hx ?hd ?_ | (refine DrP.guard (d := ?_) (op := ?_) (t := ?_) (p := ?_) (a := ?_) (j := ?_) (w := ?_) (x := ?_) (b := ?_) ?ho ?hj ?hx ?hd ?_; (case ho => rfl)) | refine EvP.condB (c := ?_) ?hx ?_); (try case hj => rfl); (case hx => ((try simp only [val, get_set, get_nil, ofArgs, ofValue, Nat.reduceEqDiff, reduceIte, Option.map_some, z1, a1, bfalse, under5, under3, w1]) <;> exact rfl)); (try case hd => rfl))  | ((first | refine OpsP.undef (x := ?_) ?hj ?hx ?hd ?_ | (refine DrP.undef (d := ?_) (op := ?_) (t := ?_) (p := ?_) (a := ?_) (j := ?_) (w := ?_) (x := ?_) ?ho ?hj ?hx ?hd ?_; (case ho => rfl))); (case hj => rfl); (case hx => ((try simp only [val, get_set, get_nil, ofArgs, ofValue, Nat.reduceEqDiff, reduceIte, Option.map_some, z1, a1, bfalse, under5, under3, w1]) <;> exact rfl)); (case hd => rfl)))
  refine EvP.loop (fun m tm h => tm.get 1 = calls ∧ tm.get 2 = .int .u8 (.ofNat to) ∧ tm.get 8 = .int .i64 (.ofNat n) ∧ tm.get 19 = .int .i64 (.ofNat n) ∧ ∃ j v cells, m = n - j ∧ j ≤ n ∧ tm.get 20 = .int .i64 (.ofNat j) ∧ tm.get 7 = v ∧ XWords h v j cells) n ?_ ?_
  · refine ⟨?_, ?_, ?_, ?_, 0, .nils, [], rfl, Nat.zero_le _, ?_, ?_, ⟨.nils, trivial, fun b e => (by cases e), fun c hc => (by cases hc)⟩⟩
    · exact (by (try simp only [val, get_set, get_nil, ofArgs, ofValue, Nat.reduceEqDiff, reduceIte, Option.map_some]) <;> exact rfl)
    · exact (by (try simp only [val, get_set, get_nil, ofArgs, ofValue, Nat.reduceEqDiff, reduceIte, Option.map_some]) <;> exact rfl)
    · exact (by (try simp only [val, get_set, get_nil, ofArgs, ofValue, Nat.reduceEqDiff, reduceIte, Option.map_some]) <;> exact rfl)
    · exact (by (try simp only [val, get_set, get_nil, ofArgs, ofValue, Nat.reduceEqDiff, reduceIte, Option.map_some]) <;> exact rfl)
    · exact (by (try simp only [val, get_set, get_nil, ofArgs, ofValue, Nat.reduceEqDiff, reduceIte, Option.map_some]) <;> exact rfl)
    · exact (by (try simp only [val, get_set, get_nil, ofArgs, ofValue, Nat.reduceEqDiff, reduceIte, Option.map_some]) <;> exact rfl)
  · rintro m tm h ⟨g1, g2, g8, g19, j, v, cells, rfl, hj, g20, g7, hx⟩
    by_cases hlt : j < n
    · have f1 : Nat.blt j n = true := by rw [blt_eq]; simp [hlt]
      have hN1 : (h.new (.row [.int .u32 101] 0 0)).2.next = h.next + 1 := rfl
      have ho1 : Own (h.new (.row [.int .u32 101] 0 0)).2 1 (.slice h.next 0 0 1 (some 1) 1) 1 [.int .u32 101] := Own.fresh _ rfl (some 1) (fun c e => by cases e; rfl)
      have hx1 : XWords (h.new (.row [.int .u32 101] 0 0)).2 v j cells := hx.keep (by omega) fun b hb _ => by rw [hget_new, if_neg (by omega)]
      have p1 : putNew h (HObj.row [.int .u32 101] 0 0, fun b => LV.slice b 0 0 1 (some 1) 1) = (.slice h.next 0 0 1 (some 1) 1, (h.new (.row [.int .u32 101] 0 0)).2) := rfl
      generalize hb1 : h.next = b1 at *
      have hne1 : ∀ b, v.blk = some b → b < b1 := fun b e => by have := hx.lt b e; omega
      have hcl1 : ∀ c ∈ cells, ∀ b, c.blk = some b → b < b1 := fun c hc b e => by have := (hx.cl c hc b e).1; omega
      generalize hh1 : (h.new (.row [.int .u32 101] 0 0)).2 = h1 at *
      have hN2 : (h1.new (.row [.str [120], .int .u8 0, .slice b1 0 0 1 (some 1) 1] 0 0)).2.next = h1.next + 1 := rfl
      have ho2 : Own (h1.new (.row [.str [120], .int .u8 0, .slice b1 0 0 1 (some 1) 1] 0 0)).2 3 (.slice h1.next 0 0 1 (some 1) 3) 1 [.str [120], .int .u8 0, .slice b1 0 0 1 (some 1) 1] := Own.fresh _ rfl (some 1) (fun c e => by cases e; rfl)
      have ho12 : Own (h1.new (.row [.str [120], .int .u8 0, .slice b1 0 0 1 (some 1) 1] 0 0)).2 1 (.slice b1 0 0 1 (some 1) 1) 1 [.int .u32 101] := ho1.keep fun b e => by cases e; rw [hget_new, if_neg (by omega)]
      have hx2 : XWords (h1.new (.row [.str [120], .int .u8 0, .slice b1 0 0 1 (some 1) 1] 0 0)).2 v j cells := hx1.keep (by omega) fun b hb _ => by rw [hget_new, if_neg (by omega)]
      have p2 : putNew h1 (HObj.row [.str [120], .int .u8 0, .slice b1 0 0 1 (some 1) 1] 0 0, fun b => LV.slice b 0 0 1 (some 1) 3) = (.slice h1.next 0 0 1 (some 1) 3, (h1.new (.row [.str [120], .int .u8 0, .slice b1 0 0 1 (some 1) 1] 0 0)).2) := rfl
      generalize hh2 : (h1.new (.row [.str [120], .int .u8 0, .slice b1 0 0 1 (some 1) 1] 0 0)).2 = h2 at *
      obtain ⟨v3, h3, ha, ho3, hn3, hk3, hb3⟩ := hx2.own.append appT30 (x := .slice h1.next 0 0 1 (some 1) 3) ho2.lenOf ho2.view rfl rfl (by show _ ≤ 70368744177664; omega) (by show _ ≤ 70368744177664; omega) hx2.lt
      have ho13 : Own h3 1 (.slice b1 0 0 1 (some 1) 1) 1 (u32s [101]) := ho12.keep fun b e => by
        cases e
        exact hk3 b1 (by omega) (fun e => by have := hne1 b1 e; omega)
      have hx3 : XWords h3 v3 (j + 1) (cells ++ [.str [120], .int .u8 0, .slice b1 0 0 1 (some 1) 1]) := by
        refine ⟨ho3, ?_, fun b e => (hb3 b e).1, ?_⟩
        · refine FzL.app (hx2.fz.keep fun c hc b e => hk3 b (by have := (hx2.cl c hc b e).1; omega) (hx2.cl c hc b e).2) ?_
          refine ⟨FzK.bare rfl, FzK.bare rfl, ?_, trivial⟩
          intro h' hk
          have hv := (ho13.keep hk).view
          rw [freezeV_slice h' 8, hv]
          rfl
        · intro c hc b e
          rcases List.mem_append.1 hc with hc | hc
          · refine ⟨by have := (hx2.cl c hc b e).1; omega, fun e' => ?_⟩
            rcases (hb3 b e').2 with k | k
            · exact (hx2.cl c hc b e).2 k
            · have := (hx2.cl c hc b e).1; omega
          · simp only [List.mem_cons, List.not_mem_nil, or_false] at hc
            rcases hc with rfl | rfl | rfl
            · cases e
            · cases e
            · cases e
              refine ⟨by omega, fun e' => ?_⟩
              rcases (hb3 b1 e').2 with k | k
              · have := hne1 b1 k; omega
              · omega
      have chk_ : True := by simp only [g1, g2, g8, g19, g20, g7, f1, bs22_1, p1, c120, build32x, bs30_s, p2, ha]
      clear chk_
      repeat (first | refine EvP.seq ?_ | refine EvP.region ?_ | refine OpsP.nil ?_ | refine GuardP.no ?_ | refine DGuardP.no ?_ | refine DrP.nil ?_ | refine CondP.t ?_ | refine CondP.f ?_ | refine EvP.ret ?_ | refine EvP.skip ?_ | refine EvP.exit ?_ | refine EvP.block ?_ | refine EvP.scope ?_  | ((first | refine OpsP.put (v := ?_) (h1 := ?_) ?hd ?he ?_ | refine OpsP.eff (v := ?_) (h1 := ?_) ?he ?_ | refine GuardP.yes (v := ?_) (h1 := ?_) ?he ?_  | (refine DrP.put (d := ?_) (op := ?_) (t := ?_) (p := ?_) (a := ?_) (v := ?_) (h1 := ?_) ?ho ?hd ?he ?_; (case ho => rfl)) | (refine DrP.eff (op := ?_) (t := ?_) (p := ?_) (a := ?_) (v := ?_) (h1 := ?_) ?ho ?he ?_; (case ho => rfl)) | refine DGuardP.yes (v := ?_) (h1 := ?_) ?he ?_); (try case hd => rfl); (case he => intro run; ((try simp only [evOp, evA, val, vals, oval, parts, get_set, get_nil, ofArgs, ofValue, binOpE, arith, ilt, convertE, unOpE, builtinE, lenE, callV, List.nil_append, List.append_nil, Option.bind_some, Option.map_some, Nat.reduceEqDiff, reduceIte, Bool.not_true, Bool.not_false, List.getElem?_cons_zero, List.getElem?_cons_succ, List.getElem?_toArray, Array.toList, List.mapM_cons, List.mapM_nil, Option.pure_def, Option.bind_eq_bind, g1, g2, g8, g19, g20, g7, f1, bs22_1, p1, c120, build32x, bs30_s, p2, ha]) <;> exact rfl)))  | ((first | refine OpsP.guard (x := ?_) (b := ?_) ?hj ?hx ?hd ?_ | (refine DrP.guard (d := ?_) (op := ?_) (t := ?_) (p := ?_) (a := ?_) (j := ?_) (w := ?_) (x := ?_) (b := ?_) ?ho ?hj ?hx ?hd ?_; (case ho => rfl)) | refine EvP.condB (c := ?_) ?hx ?_); (try case hj => rfl); (case hx => ((try simp only [val, get_set, get_nil, ofArgs, ofValue, Nat.reduceEqDiff, reduceIte, Option.map_some, g1, g2, g8, g19, g20, g7, f1, bs22_1, p1, c120, build32x, bs30_s, p2, ha]) <;> exact rfl)); (try case hd => rfl))  | ((first | refine OpsP.undef (x := ?_) ?hj ?hx ?hd ?_ | (refine DrP.undef (d := ?_) (op := ?_) (t := ?_) (p := ?_) (a := ?_) (j := ?_) (w := ?_) (x := ?_) ?ho ?hj ?hx ?hd ?_; (case ho => rfl))); (case hj => rfl); (case hx => ((try simp only [val, get_set, get_nil, ofArgs, ofValue, Nat.reduceEqDiff, reduceIte, Option.map_some, g1, g2, g8, g19, g20, g7, f1, bs22_1, p1, c120, build32x, bs30_s, p2, ha]) <;> exact rfl)); (case hd => rfl)))
      refine ⟨n - (j + 1), by omega, ?_, ?_, ?_, ?_, j + 1, v3, _, rfl, by omega, ?_, ?_, hx3⟩
      · exact (by (try simp only [val, get_set, get_nil, ofArgs, ofValue, Nat.reduceEqDiff, reduceIte, Option.map_some, g1]) <;> exact rfl)
      · exact (by (try simp only [val, get_set, get_nil, ofArgs, ofValue, Nat.reduceEqDiff, reduceIte, Option.map_some, g2]) <;> exact rfl)
      · exact (by (try simp only [val, get_set, get_nil, ofArgs, ofValue, Nat.reduceEqDiff, reduceIte, Option.map_some, g8]) <;> exact rfl)
      · exact (by (try simp only [val, get_set, get_nil, ofArgs, ofValue, Nat.reduceEqDiff, reduceIte, Option.map_some, g19]) <;> exact rfl)
      · simp only [get_set, Nat.reduceEqDiff, reduceIte]
        rw [show Int.ofNat j + 1 = Int.ofNat (j + 1) from rfl, wrap_nat .i64 (j + 1) (by simp only [half]; omega)]
      · exact (by (try simp only [val, get_set, get_nil, ofArgs, ofValue, Nat.reduceEqDiff, reduceIte, Option.map_some]) <;> exact rfl)
    · have f1 : Nat.blt n n = false := by rw [blt_eq]; simp
      have : j = n := by omega
      subst this
      have hla := bytes_len hcs
      obtain ⟨u, hu, hsl⟩ := bytes_take hcs (min cs.length 12) (Nat.min_le_left _ _)
      have hm12 := min12 cs.length
      have hCL : (cs.take (min cs.length 12)).length ≤ 12 := by rw [List.length_take]; omega
      have hCb : ∀ x ∈ cs.take (min cs.length 12), x < 256 := fun x hx => hb8 x (List.mem_of_mem_take hx)
      have hlu := bytes_len hu
      generalize cs.take (min cs.length 12) = CL at *
      generalize min cs.length 12 = mm at *
      have hZn : (h.new (.row [.str [], .int .u8 0, .nils] 0 0)).2.next = h.next + 1 := rfl
      have hy0 : YS ((h.new (.row [.str [], .int .u8 0, .nils] 0 0)).2.set h.next (.row [.str [121], .int .u8 0, .nils] 0 0)) v j cells h.next .nils [] := by
        refine ⟨hx.keep (by rw [hnext_set]; omega) fun b hb _ => by rw [hget_set, if_neg (by omega), hget_new, if_neg (by omega)], by rw [hget_set, if_pos rfl], .nils, by rw [hnext_set]; omega, fun e => ?_, fun c hc e => ?_, fun b e => by cases e⟩
        · have := hx.lt _ e; omega
        · have := (hx.cl c hc _ e).1; omega
      have st : storeAt Try.prog 32 (.ptr h.next 0 0) (.agg [.str [121], .int .u8 0, .nils]) (h.new (.row [.str [], .int .u8 0, .nils] 0 0)).2 = some ((h.new (.row [.str [], .int .u8 0, .nils] 0 0)).2.set h.next (.row [.str [121], .int .u8 0, .nils] 0 0)) := by
        have e1 : (Nat.beq (LV.agg [.str [121], .int .u8 0, .nils]).cells.length 3 && (LV.agg [.str [121], .int .u8 0, .nils]).cells.all LV.isCell) = true := rfl
        have e2 : (h.new (.row [.str [], .int .u8 0, .nils] 0 0)).2.get h.next = some (.row [.str [], .int .u8 0, .nils] 0 0) := by rw [hget_new, if_pos rfl]
        simp only [storeAt, sz32, Option.bind_some, e1, writeN, e2]
        rfl
      have chk_ : True := by simp only [g1, g2, g8, g19, g20, g7, f1, c121, build32y, zero32, LV.cells, putNew_eq, st, hla, hm12, hsl, hlu]
      clear chk_
      repeat (first | refine EvP.seq ?_ | refine EvP.region ?_ | refine OpsP.nil ?_ | refine GuardP.no ?_ | refine DGuardP.no ?_ | refine DrP.nil ?_ | refine CondP.t ?_ | refine CondP.f ?_ | refine EvP.ret ?_ | refine EvP.skip ?_ | refine EvP.exit ?_ | refine EvP.block ?_ | refine EvP.scope ?_  | ((first | refine OpsP.put (v := ?_) (h1 := ?_) ?hd ?he ?_ | refine OpsP.eff (v := ?_) (h1 := ?_) ?he ?_ | refine GuardP.yes (v := ?_) (h1 := ?_) ?he ?_  | (refine DrP.put (d := ?_) (op := ?_) (t := ?_) (p := ?_) (a := ?_) (v := ?_) (h1 := ?_) ?ho ?hd ?he ?_; (case ho => rfl)) | (refine DrP.eff (op := ?_) (t := ?_) (p := ?_) (a := ?_) (v := ?_) (h1 := ?_) ?ho ?he ?_; (case ho => rfl)) | refine DGuardP.yes (v := ?_) (h1 := ?_) ?he ?_); (try case hd => rfl); (case he => intro run; ((try simp only [evOp, evA, val, vals, oval, parts, get_set, get_nil, ofArgs, ofValue, binOpE, arith, ilt, convertE, unOpE, builtinE, callV, List.nil_append, List.append_nil, Option.bind_some, Option.map_some, Nat.reduceEqDiff, reduceIte, Bool.not_true, Bool.not_false, List.getElem?_cons_zero, List.getElem?_cons_succ, List.getElem?_toArray, Array.toList, List.mapM_cons, List.mapM_nil, Option.pure_def, Option.bind_eq_bind, g1, g2, g8, g19, g20, g7, f1, c121, build32y, zero32, LV.cells, putNew_eq, st, hla, hm12, hsl, hlu]) <;> exact rfl)))  | ((first | refine OpsP.guard (x := ?_) (b := ?_) ?hj ?hx ?hd ?_ | (refine DrP.guard (d := ?_) (op := ?_) (t := ?_) (p := ?_) (a := ?_) (j := ?_) (w := ?_) (x := ?_) (b := ?_) ?ho ?hj ?hx ?hd ?_; (case ho => rfl)) | refine EvP.condB (c := ?_) ?hx ?_); (try case hj => rfl); (case hx => ((try simp only [val, get_set, get_nil, ofArgs, ofValue, Nat.reduceEqDiff, reduceIte, Option.map_some, g1, g2, g8, g19, g20, g7, f1, c121, build32y, zero32, LV.cells, putNew_eq, st, hla, hm12, hsl, hlu]) <;> exact rfl)); (try case hd => rfl))  | ((first | refine OpsP.undef (x := ?_) ?hj ?hx ?hd ?_ | (refine DrP.undef (d := ?_) (op := ?_) (t := ?_) (p := ?_) (a := ?_) (j := ?_) (w := ?_) (x := ?_) ?ho ?hj ?hx ?hd ?_; (case ho => rfl))); (case hj => rfl); (case hx => ((try simp only [val, get_set, get_nil, ofArgs, ofValue, Nat.reduceEqDiff, reduceIte, Option.map_some, g1, g2, g8, g19, g20, g7, f1, c121, build32y, zero32, LV.cells, putNew_eq, st, hla, hm12, hsl, hlu]) <;> exact rfl)); (case hd => rfl)))
      generalize h.next = y at *
      clear st hx hZn
      refine EvP.loop (fun m tm h => tm.get 2 = .int .u8 (.ofNat to) ∧ tm.get 7 = v ∧ tm.get 8 = .int .i64 (.ofNat j) ∧ tm.get 9 = .ptr y 0 0 ∧ tm.get 33 = u ∧ tm.get 34 = .int .i64 (.ofNat CL.length) ∧
          ∃ i cv, m = CL.length - i ∧ i ≤ CL.length ∧ tm.get 35 = .int .i64 (.ofNat i) ∧ YS h v j cells y cv ((CL.take i).map fun c => 256 + c % 30) ∧ tm.get 10 = .bool ((CL.take i).all fun c => decide (c % 30 ≤ j))) CL.length ?_ ?_
      · refine ⟨?_, ?_, ?_, ?_, ?_, ?_, 0, .nils, rfl, Nat.zero_le _, ?_, hy0, ?_⟩
        · exact (by (try simp only [val, get_set, get_nil, ofArgs, ofValue, Nat.reduceEqDiff, reduceIte, Option.map_some, g2]) <;> exact rfl)
        · exact (by (try simp only [val, get_set, get_nil, ofArgs, ofValue, Nat.reduceEqDiff, reduceIte, Option.map_some, g7]) <;> exact rfl)
        · exact (by (try simp only [val, get_set, get_nil, ofArgs, ofValue, Nat.reduceEqDiff, reduceIte, Option.map_some, g8]) <;> exact rfl)
        · exact (by (try simp only [val, get_set, get_nil, ofArgs, ofValue, Nat.reduceEqDiff, reduceIte, Option.map_some]) <;> exact rfl)
        · exact (by (try simp only [val, get_set, get_nil, ofArgs, ofValue, Nat.reduceEqDiff, reduceIte, Option.map_some]) <;> exact rfl)
        · exact (by (try simp only [val, get_set, get_nil, ofArgs, ofValue, Nat.reduceEqDiff, reduceIte, Option.map_some]) <;> exact rfl)
        · exact (by (try simp only [val, get_set, get_nil, ofArgs, ofValue, Nat.reduceEqDiff, reduceIte, Option.map_some]) <;> exact rfl)
        · exact (by (try simp only [val, get_set, get_nil, ofArgs, ofValue, Nat.reduceEqDiff, reduceIte, Option.map_some]) <;> exact rfl)
      · clear g1 g2 g8 g19 g20 g7 f1 hy0 hla hm12 hsl
        rintro m tm h ⟨g2, g7, g8, g9, g33, g34, i, cv, rfl, hi, g35, hys, g10⟩
        by_cases hlt : i < CL.length
        · have f1 : Nat.blt i CL.length = true := by rw [blt_eq]; simp [hlt]
          obtain ⟨p, hp1, hp2⟩ := bytes_at hu i hlt
          have hcb := hCb CL[i] (List.getElem_mem hlt)
          have htk : CL.take (i + 1) = CL.take i ++ [CL[i]] := by rw [List.take_add_one, List.getElem?_eq_getElem hlt]; rfl
          generalize CL[i] = c at *
          have hc30 : c % 30 < 30 := Nat.mod_lt _ (by decide)
          have a3 : (Int.ofNat c).tmod 30 = .ofNat (c % 30) := rfl
          have w3 : wrap .u32 (Int.ofNat (c % 30)) = .ofNat (c % 30) := wrap_u .u32 rfl _ (by simp only [pow2]; omega)
          have w4 : wrap .u32 (256 + Int.ofNat (c % 30)) = .ofNat (256 + c % 30) := by rw [show (256 : Int) + Int.ofNat (c % 30) = Int.ofNat (256 + c % 30) from rfl, wrap_u .u32 rfl _ (by simp only [pow2]; omega)]
          have w5 : wrap .i64 (Int.ofNat (c % 30)) = .ofNat (c % 30) := wrap_nat .i64 _ (by simp only [half]; omega)
          have hld := hys.ld
          obtain ⟨cv', h', ha, hst, hys'⟩ := hys.app [256 + c % 30] (by simp; omega)
          have hp' : putNew h (HObj.row [.int .u32 (.ofNat (256 + c % 30))] 0 0, fun b => LV.slice b 0 0 1 (some 1) 1) = (.slice h.next 0 0 [256 + c % 30].length (some [256 + c % 30].length) 1, (h.new (.row (u32s [256 + c % 30]) 0 0)).2) := rfl
          have hys2 : YS (h'.set y (.row [.str [121], .int .u8 0, cv'] 0 0)) v j cells y cv' ((CL.take (i + 1)).map fun c => 256 + c % 30) := by rw [htk, List.map_append]; exact hys'
          have hall : ((CL.take (i + 1)).all fun c => decide (c % 30 ≤ j)) = (((CL.take i).all fun c => decide (c % 30 ≤ j)) && !Nat.blt j (c % 30)) := by
            rw [htk, List.all_append, List.all_cons, List.all_nil, Bool.and_true, blt_eq]
            congr 1
            by_cases h : c % 30 ≤ j
            · simp [h]
            · simp [h]; omega
          generalize ((CL.take i).all fun c => decide (c % 30 ≤ j)) = fb at *
          have chk_ : True := by simp only [g2, g7, g8, g9, g33, g34, g35, g10, f1, hp1, hp2, fa32_2, hld, z3, bfalse, a3, under5, Try.underlying36, under3, w3, w4, w5, bs22_1, hp', ha, hst]
          clear chk_
          repeat (first | refine EvP.seq ?_ | refine EvP.region ?_ | refine OpsP.nil ?_ | refine GuardP.no ?_ | refine DGuardP.no ?_ | refine DrP.nil ?_ | refine CondP.t ?_ | refine CondP.f ?_ | refine EvP.ret ?_ | refine EvP.skip ?_ | refine EvP.exit ?_ | refine EvP.block ?_ | refine EvP.scope ?_  | ((first | refine OpsP.put (v := ?_) (h1 := ?_) ?hd ?he ?_ | refine OpsP.eff (v := ?_) (h1 := ?_) ?he ?_ | refine GuardP.yes (v := ?_) (h1 := ?_) ?he ?_  | (refine DrP.put (d := ?_) (op := ?_) (t := ?_) (p := ?_) (a := ?_) (v := ?_) (h1 := ?_) ?ho ?hd ?he ?_; (case ho => rfl)) | (refine DrP.eff (op := ?_) (t := ?_) (p := ?_) (a := ?_) (v := ?_) (h1 := ?_) ?ho ?he ?_; (case ho => rfl)) | refine DGuardP.yes (v := ?_) (h1 := ?_) ?he ?_); (try case hd => rfl); (case he => intro run; ((try simp only [evOp, evA, val, vals, oval, parts, get_set, get_nil, ofArgs, ofValue, binOpE, arith, ilt, convertE, unOpE, builtinE, lenE, callV, List.nil_append, List.append_nil, Option.bind_some, Option.map_some, Nat.reduceEqDiff, reduceIte, List.getElem?_cons_zero, List.getElem?_cons_succ, List.getElem?_toArray, Array.toList, List.mapM_cons, List.mapM_nil, Option.pure_def, Option.bind_eq_bind, g2, g7, g8, g9, g33, g34, g35, g10, f1, hp1, hp2, fa32_2, hld, z3, bfalse, a3, under5, Try.underlying36, under3, w3, w4, w5, bs22_1, hp', ha, hst]) <;> exact rfl)))  | ((first | refine OpsP.guard (x := ?_) (b := ?_) ?hj ?hx ?hd ?_ | (refine DrP.guard (d := ?_) (op := ?_) (t := ?_) (p := ?_) (a := ?_) (j := ?_) (w := ?_) (x := ?_) (b := ?_) ?ho ?hj ?hx ?hd ?_; (case ho => rfl)) | refine EvP.condB (c := ?_) ?hx ?_); (try case hj => rfl); (case hx => ((try simp only [val, get_set, get_nil, ofArgs, ofValue, Nat.reduceEqDiff, reduceIte, Option.map_some, g2, g7, g8, g9, g33, g34, g35, g10, f1, hp1, hp2, fa32_2, hld, z3, bfalse, a3, under5, Try.underlying36, under3, w3, w4, w5, bs22_1, hp', ha, hst]) <;> exact rfl)); (try case hd => rfl))  | ((first | refine OpsP.undef (x := ?_) ?hj ?hx ?hd ?_ | (refine DrP.undef (d := ?_) (op := ?_) (t := ?_) (p := ?_) (a := ?_) (j := ?_) (w := ?_) (x := ?_) ?ho ?hj ?hx ?hd ?_; (case ho => rfl))); (case hj => rfl); (case hx => ((try simp only [val, get_set, get_nil, ofArgs, ofValue, Nat.reduceEqDiff, reduceIte, Option.map_some, g2, g7, g8, g9, g33, g34, g35, g10, f1, hp1, hp2, fa32_2, hld, z3, bfalse, a3, under5, Try.underlying36, under3, w3, w4, w5, bs22_1, hp', ha, hst]) <;> exact rfl)); (case hd => rfl)))
          cases fb with
          | true =>
            have chk_ : True := by simp only [g2, g7, g8, g9, g33, g34, g35, g10, f1, z3, bfalse, a3, under5, Try.underlying36, under3, w3, w4, w5]
            clear chk_
            repeat (first | refine EvP.seq ?_ | refine EvP.region ?_ | refine OpsP.nil ?_ | refine GuardP.no ?_ | refine DGuardP.no ?_ | refine DrP.nil ?_ | refine CondP.t ?_ | refine CondP.f ?_ | refine EvP.ret ?_ | refine EvP.skip ?_ | refine EvP.exit ?_ | refine EvP.block ?_ | refine EvP.scope ?_  | ((first | refine OpsP.put (v := ?_) (h1 := ?_) ?hd ?he ?_ | refine OpsP.eff (v := ?_) (h1 := ?_) ?he ?_ | refine GuardP.yes (v := ?_) (h1 := ?_) ?he ?_  | (refine DrP.put (d := ?_) (op := ?_) (t := ?_) (p := ?_) (a := ?_) (v := ?_) (h1 := ?_) ?ho ?hd ?he ?_; (case ho => rfl)) | (refine DrP.eff (op := ?_) (t := ?_) (p := ?_) (a := ?_) (v := ?_) (h1 := ?_) ?ho ?he ?_; (case ho => rfl)) | refine DGuardP.yes (v := ?_) (h1 := ?_) ?he ?_); (try case hd => rfl); (case he => intro run; ((try simp only [evOp, evA, val, vals, oval, parts, get_set, get_nil, ofArgs, ofValue, binOpE, arith, ilt, convertE, unOpE, builtinE, lenE, callV, List.nil_append, List.append_nil, Option.bind_some, Option.map_some, Nat.reduceEqDiff, reduceIte, List.getElem?_cons_zero, List.getElem?_cons_succ, List.getElem?_toArray, Array.toList, List.mapM_cons, List.mapM_nil, Option.pure_def, Option.bind_eq_bind, g2, g7, g8, g9, g33, g34, g35, g10, f1, z3, bfalse, a3, under5, Try.underlying36, under3, w3, w4, w5]) <;> exact rfl)))  | ((first | refine OpsP.guard (x := ?_) (b := ?_) ?hj ?hx ?hd ?_ | (refine DrP.guard (d := ?_) (op := ?_) (t := ?_) (p := ?_) (a := ?_) (j := ?_) (w := ?_) (x := ?_) (b := ?_) ?ho ?hj ?hx ?hd ?_; (case ho => rfl)) | refine EvP.condB (c := ?_) ?hx ?_); (try case hj => rfl); (case hx => ((try simp only [val, get_set, get_nil, ofArgs, ofValue, Nat.reduceEqDiff, reduceIte, Option.map_some, g2, g7, g8, g9, g33, g34, g35, g10, f1, z3, bfalse, a3, under5, Try.underlying36, under3, w3, w4, w5]) <;> exact rfl)); (try case hd => rfl))  | ((first | refine OpsP.undef (x := ?_) ?hj ?hx ?hd ?_ | (refine DrP.undef (d := ?_) (op := ?_) (t := ?_) (p := ?_) (a := ?_) (j := ?_) (w := ?_) (x := ?_) ?ho ?hj ?hx ?hd ?_; (case ho => rfl))); (case hj => rfl); (case hx => ((try simp only [val, get_set, get_nil, ofArgs, ofValue, Nat.reduceEqDiff, reduceIte, Option.map_some, g2, g7, g8, g9, g33, g34, g35, g10, f1, z3, bfalse, a3, under5, Try.underlying36, under3, w3, w4, w5]) <;> exact rfl)); (case hd => rfl)))
            refine ⟨CL.length - (i + 1), by omega, ?_, ?_, ?_, ?_, ?_, ?_, i + 1, cv', rfl, by omega, ?_, hys2, ?_⟩
            · exact (by (try simp only [val, get_set, get_nil, ofArgs, ofValue, Nat.reduceEqDiff, reduceIte, Option.map_some, g2]) <;> exact rfl)
            · exact (by (try simp only [val, get_set, get_nil, ofArgs, ofValue, Nat.reduceEqDiff, reduceIte, Option.map_some, g7]) <;> exact rfl)
            · exact (by (try simp only [val, get_set, get_nil, ofArgs, ofValue, Nat.reduceEqDiff, reduceIte, Option.map_some, g8]) <;> exact rfl)
            · exact (by (try simp only [val, get_set, get_nil, ofArgs, ofValue, Nat.reduceEqDiff, reduceIte, Option.map_some, g9]) <;> exact rfl)
            · exact (by (try simp only [val, get_set, get_nil, ofArgs, ofValue, Nat.reduceEqDiff, reduceIte, Option.map_some, g33]) <;> exact rfl)
            · exact (by (try simp only [val, get_set, get_nil, ofArgs, ofValue, Nat.reduceEqDiff, reduceIte, Option.map_some, g34]) <;> exact rfl)
            · simp only [get_set, Nat.reduceEqDiff, reduceIte]
              rw [show Int.ofNat i + 1 = Int.ofNat (i + 1) from rfl, wrap_nat .i64 (i + 1) (by simp only [half]; omega)]
            · rw [hall]; exact (by (try simp only [val, get_set, get_nil, ofArgs, ofValue, Nat.reduceEqDiff, reduceIte, Option.map_some]) <;> exact rfl)
          | false =>
            have chk_ : True := by simp only [g2, g7, g8, g9, g33, g34, g35, g10, f1]
            clear chk_
            repeat (first | refine EvP.seq ?_ | refine EvP.region ?_ | refine OpsP.nil ?_ | refine GuardP.no ?_ | refine DGuardP.no ?_ | refine DrP.nil ?_ | refine CondP.t ?_ | refine CondP.f ?_ | refine EvP.ret ?_ | refine EvP.skip ?_ | refine EvP.exit ?_ | refine EvP.block ?_ | refine EvP.scope ?_  | ((first | refine OpsP.put (v := ?_) (h1 := ?_) ?hd ?he ?_ | refine OpsP.eff (v := ?_) (h1 := ?_) ?he ?_ | refine GuardP.yes (v := ?_) (h1 := ?_) ?he ?_  | (refine DrP.put (d := ?_) (op := ?_) (t := ?_) (p := ?_) (a := ?_) (v := ?_) (h1 := ?_) ?ho ?hd ?he ?_; (case ho => rfl)) | (refine DrP.eff (op := ?_) (t := ?_) (p := ?_) (a := ?_) (v := ?_) (h1 := ?_) ?ho ?he ?_; (case ho => rfl)) | refine DGuardP.yes (v := ?_) (h1 := ?_) ?he ?_); (try case hd => rfl); (case he => intro run; ((try simp only [evOp, evA, val, vals, oval, parts, get_set, get_nil, ofArgs, ofValue, binOpE, arith, ilt, convertE, unOpE, builtinE, lenE, callV, List.nil_append, List.append_nil, Option.bind_some, Option.map_some, Nat.reduceEqDiff, reduceIte, List.getElem?_cons_zero, List.getElem?_cons_succ, List.getElem?_toArray, Array.toList, List.mapM_cons, List.mapM_nil, Option.pure_def, Option.bind_eq_bind, g2, g7, g8, g9, g33, g34, g35, g10, f1]) <;> exact rfl)))  | ((first | refine OpsP.guard (x := ?_) (b := ?_) ?hj ?hx ?hd ?_ | (refine DrP.guard (d := ?_) (op := ?_) (t := ?_) (p := ?_) (a := ?_) (j := ?_) (w := ?_) (x := ?_) (b := ?_) ?ho ?hj ?hx ?hd ?_; (case ho => rfl)) | refine EvP.condB (c := ?_) ?hx ?_); (try case hj => rfl); (case hx => ((try simp only [val, get_set, get_nil, ofArgs, ofValue, Nat.reduceEqDiff, reduceIte, Option.map_some, g2, g7, g8, g9, g33, g34, g35, g10, f1]) <;> exact rfl)); (try case hd => rfl))  | ((first | refine OpsP.undef (x := ?_) ?hj ?hx ?hd ?_ | (refine DrP.undef (d := ?_) (op := ?_) (t := ?_) (p := ?_) (a := ?_) (j := ?_) (w := ?_) (x := ?_) ?ho ?hj ?hx ?hd ?_; (case ho => rfl))); (case hj => rfl); (case hx => ((try simp only [val, get_set, get_nil, ofArgs, ofValue, Nat.reduceEqDiff, reduceIte, Option.map_some, g2, g7, g8, g9, g33, g34, g35, g10, f1]) <;> exact rfl)); (case hd => rfl)))
            refine ⟨CL.length - (i + 1), by omega, ?_, ?_, ?_, ?_, ?_, ?_, i + 1, cv', rfl, by omega, ?_, hys2, ?_⟩
            · exact (by (try simp only [val, get_set, get_nil, ofArgs, ofValue, Nat.reduceEqDiff, reduceIte, Option.map_some, g2]) <;> exact rfl)
            · exact (by (try simp only [val, get_set, get_nil, ofArgs, ofValue, Nat.reduceEqDiff, reduceIte, Option.map_some, g7]) <;> exact rfl)
            · exact (by (try simp only [val, get_set, get_nil, ofArgs, ofValue, Nat.reduceEqDiff, reduceIte, Option.map_some, g8]) <;> exact rfl)
            · exact (by (try simp only [val, get_set, get_nil, ofArgs, ofValue, Nat.reduceEqDiff, reduceIte, Option.map_some, g9]) <;> exact rfl)
            · exact (by (try simp only [val, get_set, get_nil, ofArgs, ofValue, Nat.reduceEqDiff, reduceIte, Option.map_some, g33]) <;> exact rfl)
            · exact (by (try simp only [val, get_set, get_nil, ofArgs, ofValue, Nat.reduceEqDiff, reduceIte, Option.map_some, g34]) <;> exact rfl)
            · simp only [get_set, Nat.reduceEqDiff, reduceIte]
              rw [show Int.ofNat i + 1 = Int.ofNat (i + 1) from rfl, wrap_nat .i64 (i + 1) (by simp only [half]; omega)]
            · rw [hall]; exact (by (try simp only [val, get_set, get_nil, ofArgs, ofValue, Nat.reduceEqDiff, reduceIte, Option.map_some]) <;> exact rfl)
        · have f1 : Nat.blt CL.length CL.length = false := by rw [blt_eq]; simp
          have : i = CL.length := by omega
          subst this
          rw [List.take_length] at hys g10
          have hld := hys.ld
          have hlcv := own_len22 hys.own
          rw [List.length_map] at hlcv
          obtain ⟨cv', h', ha, hst, hys'⟩ := hys.app [104, place, 101] (by simp; omega)
          have hp' : putNew h (HObj.row [.int .u32 104, .int .u32 (.ofNat place), .int .u32 101] 0 0, fun b => LV.slice b 0 0 3 (some 3) 1) = (.slice h.next 0 0 [104, place, 101].length (some [104, place, 101].length) 1, (h.new (.row (u32s [104, place, 101]) 0 0)).2) := rfl
          have hyc : (CL.map fun c => 256 + c % 30) ++ [104, place, 101] = yCode CL place := rfl
          rw [hyc] at hys'
          have hyl : (yCode CL place).length = CL.length + 3 := by simp [yCode]
          have hldw := hys'.ldw
          generalize hh2 : h'.set y (.row [.str [121], .int .u8 0, cv'] 0 0) = h2 at *
          -- the list of all words
          have hbs := bs30_own hys'.own [121]
          have hN3 : (h2.new (.row [.str [121], .int .u8 0, cv'] 0 0)).2.next = h2.next + 1 := rfl
          have keep3 : ∀ b, b < h2.next → (h2.new (.row [.str [121], .int .u8 0, cv'] 0 0)).2.get b = h2.get b := fun b hb => by rw [hget_new, if_neg (by omega)]
          have hx3 : XWords (h2.new (.row [.str [121], .int .u8 0, cv'] 0 0)).2 v j cells := hys'.xw.keep (by omega) fun b hb _ => keep3 b hb
          have ho3 : Own (h2.new (.row [.str [121], .int .u8 0, cv'] 0 0)).2 3 (.slice h2.next 0 0 1 (some 1) 3) 1 [.str [121], .int .u8 0, cv'] := Own.fresh _ rfl (some 1) (fun c e => by cases e; rfl)
          have hoc : Own (h2.new (.row [.str [121], .int .u8 0, cv'] 0 0)).2 1 cv' (yCode CL place).length (u32s (yCode CL place)) := hys'.own.keep fun b e => keep3 b (hys'.cb b e).1
          have hp3 : putNew h2 (HObj.row [.str [121], .int .u8 0, cv'] 0 0, fun b => LV.slice b 0 0 1 (some 1) 3) = (.slice h2.next 0 0 1 (some 1) 3, (h2.new (.row [.str [121], .int .u8 0, cv'] 0 0)).2) := rfl
          have hcell3 : [LV.str [121], .int .u8 0, cv'].all LV.isCell = true := by
            have := (own_cell hys'.own).2
            simp only [List.all_cons, this, List.all_nil]; rfl
          obtain ⟨v4, h4, ha4, ho4, hn4, hk4, hb4⟩ := hx3.own.append appT30 (x := .slice h2.next 0 0 1 (some 1) 3) ho3.lenOf ho3.view rfl hcell3 (by show _ ≤ 70368744177664; omega) (by show _ ≤ 70368744177664; omega) hx3.lt
          have hoc4 : Own h4 1 cv' (yCode CL place).length (u32s (yCode CL place)) := hoc.keep fun b e => hk4 b (by have := (hys'.cb b e).1; omega) (hys'.cb b e).2.2.1
          obtain ⟨cf, hcf, hcd⟩ := FzK.code hoc4 (by omega)
          have hfz : FzL h4 (cells ++ [.str [121], .int .u8 0, cv']) (xcells j ++ [.str [121], .int .u8 0, cf]) := by
            refine FzL.app (hx3.fz.keep fun c hc b e => hk4 b (hx3.cl c hc b e).1 (hx3.cl c hc b e).2) ?_
            exact ⟨FzK.bare rfl, FzK.bare rfl, hcf, trivial⟩
          have hpar : parseW (xcells j ++ [.str [121], .int .u8 0, cf]) = some (callsW j CL place) := by
            refine parse_app _ _ _ _ (parse_x j) ?_
            refine parse_one (nm := [121]) (fl := 0) hcd ⟨by simp, by decide⟩ (by decide) ?_
            intro x hx
            unfold yCode at hx
            rcases List.mem_append.1 hx with hx | hx
            · obtain ⟨c, _, rfl⟩ := List.mem_map.1 hx
              have := Nat.mod_lt c (show 30 > 0 by decide)
              omega
            · simp at hx; omega
          have hcl := fun run => call23_12 run (ho4.wordsF hfz hpar (by omega))
          rw [check_calls j CL place hCL] at hcl
          have w6 : wrap .i64 (Int.ofNat CL.length + 2) = .ofNat (CL.length + 2) := by rw [show Int.ofNat CL.length + 2 = Int.ofNat (CL.length + 2) from rfl, wrap_nat .i64 _ (by simp only [half]; omega)]
          have q1 : ieq (-1) (-1) = true := rfl
          have q2 : ieq (Int.ofNat j) (Int.ofNat j) = true := by show Nat.beq j j = true; rw [beq_eq]; simp
          have q3 : ieq (Int.ofNat place) (Int.ofNat (CL.length + 2)) = decide (place = CL.length + 2) := by show Nat.beq _ _ = _; rw [beq_eq]
          have q4 : ilt (Int.ofNat CL.length) (Int.ofNat place) = !decide (place ≤ CL.length) := by
            show Nat.blt _ _ = _
            rw [blt_eq]
            by_cases h : place ≤ CL.length
            · simp [h]
            · simp [h]; omega
          have q5 : ilt (Int.ofNat CL.length) (Int.ofNat CL.length) = false := f1
          have nt : (!true) = false := rfl
          have nf : (!false) = true := rfl
          generalize (CL.all fun c => decide (c % 30 ≤ j)) = fb at *
          generalize decide (place ≤ CL.length) = b1 at *
          generalize decide (place = CL.length + 2) = b2 at *
          cases fb with
          | false =>
            have hcl : ∀ run : Run, callE Try.prog ov23 run 12 [v4] h4 = some (.int .i64 (.ofNat j), h4) := hcl
            have chk_ : True := by simp only [g2, g7, g8, g9, g33, g34, g35, g10, q5, fa32_2, hld, hlcv, z2, bfalse, a2, under5, under3, Try.underlying36, w2, w2u, bs22_3, hp', ha, hst, q3, q4, w6, hldw, hbs, hp3, ha4, hcl, q1, q2, nt, nf, call23_8]
            clear chk_
            repeat (first | refine EvP.seq ?_ | refine EvP.region ?_ | refine OpsP.nil ?_ | refine GuardP.no ?_ | refine DGuardP.no ?_ | refine DrP.nil ?_ | refine CondP.t ?_ | refine CondP.f ?_ | refine EvP.ret ?_ | refine EvP.skip ?_ | refine EvP.exit ?_ | refine EvP.block ?_ | refine EvP.scope ?_  | ((first | refine OpsP.put (v := ?_) (h1 := ?_) ?hd ?he ?_ | refine OpsP.eff (v := ?_) (h1 := ?_) ?he ?_ | refine GuardP.yes (v := ?_) (h1 := ?_) ?he ?_  | (refine DrP.put (d := ?_) (op := ?_) (t := ?_) (p := ?_) (a := ?_) (v := ?_) (h1 := ?_) ?ho ?hd ?he ?_; (case ho => rfl)) | (refine DrP.eff (op := ?_) (t := ?_) (p := ?_) (a := ?_) (v := ?_) (h1 := ?_) ?ho ?he ?_; (case ho => rfl)) | refine DGuardP.yes (v := ?_) (h1 := ?_) ?he ?_); (try case hd => rfl); (case he => intro run; ((try simp only [evOp, evA, val, vals, oval, parts, get_set, get_nil, ofArgs, ofValue, binOpE, arith, convertE, unOpE, builtinE, callV, List.nil_append, List.append_nil, Option.bind_some, Option.map_some, Nat.reduceEqDiff, reduceIte, Bool.not_true, Bool.not_false, List.getElem?_cons_zero, List.getElem?_cons_succ, List.getElem?_toArray, Array.toList, List.mapM_cons, List.mapM_nil, Option.pure_def, Option.bind_eq_bind, g2, g7, g8, g9, g33, g34, g35, g10, q5, fa32_2, hld, hlcv, z2, bfalse, a2, under5, under3, Try.underlying36, w2, w2u, bs22_3, hp', ha, hst, q3, q4, w6, hldw, hbs, hp3, ha4, hcl, q1, q2, nt, nf, call23_8]) <;> exact rfl)))  | ((first | refine OpsP.guard (x := ?_) (b := ?_) ?hj ?hx ?hd ?_ | (refine DrP.guard (d := ?_) (op := ?_) (t := ?_) (p := ?_) (a := ?_) (j := ?_) (w := ?_) (x := ?_) (b := ?_) ?ho ?hj ?hx ?hd ?_; (case ho => rfl)) | refine EvP.condB (c := ?_) ?hx ?_); (try case hj => rfl); (case hx => ((try simp only [val, get_set, get_nil, ofArgs, ofValue, Nat.reduceEqDiff, reduceIte, Option.map_some, g2, g7, g8, g9, g33, g34, g35, g10, q5, fa32_2, hld, hlcv, z2, bfalse, a2, under5, under3, Try.underlying36, w2, w2u, bs22_3, hp', ha, hst, q3, q4, w6, hldw, hbs, hp3, ha4, hcl, q1, q2, nt, nf, call23_8]) <;> exact rfl)); (try case hd => rfl))  | ((first | refine OpsP.undef (x := ?_) ?hj ?hx ?hd ?_ | (refine DrP.undef (d := ?_) (op := ?_) (t := ?_) (p := ?_) (a := ?_) (j := ?_) (w := ?_) (x := ?_) ?ho ?hj ?hx ?hd ?_; (case ho => rfl))); (case hj => rfl); (case hx => ((try simp only [val, get_set, get_nil, ofArgs, ofValue, Nat.reduceEqDiff, reduceIte, Option.map_some, g2, g7, g8, g9, g33, g34, g35, g10, q5, fa32_2, hld, hlcv, z2, bfalse, a2, under5, under3, Try.underlying36, w2, w2u, bs22_3, hp', ha, hst, q3, q4, w6, hldw, hbs, hp3, ha4, hcl, q1, q2, nt, nf, call23_8]) <;> exact rfl)); (case hd => rfl)))
            refine ⟨_, rfl, ?_⟩
            simp only [oneOf, get_set, Nat.reduceEqDiff, reduceIte]
          | true =>
            cases b1 with
            | true =>
              have hcl : ∀ run : Run, callE Try.prog ov23 run 12 [v4] h4 = some (.int .i64 (-1), h4) := hcl
              have chk_ : True := by simp only [g2, g7, g8, g9, g33, g34, g35, g10, q5, fa32_2, hld, hlcv, z2, bfalse, a2, under5, under3, Try.underlying36, w2, w2u, bs22_3, hp', ha, hst, q3, q4, w6, hldw, hbs, hp3, ha4, hcl, q1, q2, nt, nf, call23_8]
              clear chk_
              repeat (first | refine EvP.seq ?_ | refine EvP.region ?_ | refine OpsP.nil ?_ | refine GuardP.no ?_ | refine DGuardP.no ?_ | refine DrP.nil ?_ | refine CondP.t ?_ | refine CondP.f ?_ | refine EvP.ret ?_ | refine EvP.skip ?_ | refine EvP.exit ?_ | refine EvP.block ?_ | refine EvP.scope ?_  | ((first | refine OpsP.put (v := ?_) (h1 := ?_) ?hd ?he ?_ | refine OpsP.eff (v := ?_) (h1 := ?_) ?he ?_ | refine GuardP.yes (v := ?_) (h1 := ?_) ?he ?_  | (refine DrP.put (d := ?_) (op := ?_) (t := ?_) (p := ?_) (a := ?_) (v := ?_) (h1 := ?_) ?ho ?hd ?he ?_; (case ho => rfl)) | (refine DrP.eff (op := ?_) (t := ?_) (p := ?_) (a := ?_) (v := ?_) (h1 := ?_) ?ho ?he ?_; (case ho => rfl)) | refine DGuardP.yes (v := ?_) (h1 := ?_) ?he ?_); (try case hd => rfl); (case he => intro run; ((try simp only [evOp, evA, val, vals, oval, parts, get_set, get_nil, ofArgs, ofValue, binOpE, arith, convertE, unOpE, builtinE, callV, List.nil_append, List.append_nil, Option.bind_some, Option.map_some, Nat.reduceEqDiff, reduceIte, Bool.not_true, Bool.not_false, List.getElem?_cons_zero, List.getElem?_cons_succ, List.getElem?_toArray, Array.toList, List.mapM_cons, List.mapM_nil, Option.pure_def, Option.bind_eq_bind, g2, g7, g8, g9, g33, g34, g35, g10, q5, fa32_2, hld, hlcv, z2, bfalse, a2, under5, under3, Try.underlying36, w2, w2u, bs22_3, hp', ha, hst, q3, q4, w6, hldw, hbs, hp3, ha4, hcl, q1, q2, nt, nf, call23_8]) <;> exact rfl)))  | ((first | refine OpsP.guard (x := ?_) (b := ?_) ?hj ?hx ?hd ?_ | (refine DrP.guard (d := ?_) (op := ?_) (t := ?_) (p := ?_) (a := ?_) (j := ?_) (w := ?_) (x := ?_) (b := ?_) ?ho ?hj ?hx ?hd ?_; (case ho => rfl)) | refine EvP.condB (c := ?_) ?hx ?_); (try case hj => rfl); (case hx => ((try simp only [val, get_set, get_nil, ofArgs, ofValue, Nat.reduceEqDiff, reduceIte, Option.map_some, g2, g7, g8, g9, g33, g34, g35, g10, q5, fa32_2, hld, hlcv, z2, bfalse, a2, under5, under3, Try.underlying36, w2, w2u, bs22_3, hp', ha, hst, q3, q4, w6, hldw, hbs, hp3, ha4, hcl, q1, q2, nt, nf, call23_8]) <;> exact rfl)); (try case hd => rfl))  | ((first | refine OpsP.undef (x := ?_) ?hj ?hx ?hd ?_ | (refine DrP.undef (d := ?_) (op := ?_) (t := ?_) (p := ?_) (a := ?_) (j := ?_) (w := ?_) (x := ?_) ?ho ?hj ?hx ?hd ?_; (case ho => rfl))); (case hj => rfl); (case hx => ((try simp only [val, get_set, get_nil, ofArgs, ofValue, Nat.reduceEqDiff, reduceIte, Option.map_some, g2, g7, g8, g9, g33, g34, g35, g10, q5, fa32_2, hld, hlcv, z2, bfalse, a2, under5, under3, Try.underlying36, w2, w2u, bs22_3, hp', ha, hst, q3, q4, w6, hldw, hbs, hp3, ha4, hcl, q1, q2, nt, nf, call23_8]) <;> exact rfl)); (case hd => rfl)))
              refine ⟨_, rfl, ?_⟩
              simp only [oneOf, get_set, Nat.reduceEqDiff, reduceIte]
            | false =>
              cases b2 with
              | true =>
                have hcl : ∀ run : Run, callE Try.prog ov23 run 12 [v4] h4 = some (.int .i64 (-1), h4) := hcl
                have chk_ : True := by simp only [g2, g7, g8, g9, g33, g34, g35, g10, q5, fa32_2, hld, hlcv, z2, bfalse, a2, under5, under3, Try.underlying36, w2, w2u, bs22_3, hp', ha, hst, q3, q4, w6, hldw, hbs, hp3, ha4, hcl, q1, q2, nt, nf, call23_8]
                clear chk_
                repeat (first | refine EvP.seq ?_ | refine EvP.region ?_ | refine OpsP.nil ?_ | refine GuardP.no ?_ | refine DGuardP.no ?_ | refine DrP.nil ?_ | refine CondP.t ?_ | refine CondP.f ?_ | refine EvP.ret ?_ | refine EvP.skip ?_ | refine EvP.exit ?_ | refine EvP.block ?_ | refine EvP.scope ?_  | ((first | refine OpsP.put (v := ?_) (h1 := ?_) ?hd ?he ?_ | refine OpsP.eff (v := ?_) (h1 := ?_) ?he ?_ | refine GuardP.yes (v := ?_) (h1 := ?_) ?he ?_  | (refine DrP.put (d := ?_) (op := ?_) (t := ?_) (p := ?_) (a := ?_) (v := ?_) (h1 := ?_) ?ho ?hd ?he ?_; (case ho => rfl)) | (refine DrP.eff (op := ?_) (t := ?_) (p := ?_) (a := ?_) (v := ?_) (h1 := ?_) ?ho ?he ?_; (case ho => rfl)) | refine DGuardP.yes (v := ?_) (h1 := ?_) ?he ?_); (try case hd => rfl); (case he => intro run; ((try simp only [evOp, evA, val, vals, oval, parts, get_set, get_nil, ofArgs, ofValue, binOpE, arith, convertE, unOpE, builtinE, callV, List.nil_append, List.append_nil, Option.bind_some, Option.map_some, Nat.reduceEqDiff, reduceIte, Bool.not_true, Bool.not_false, List.getElem?_cons_zero, List.getElem?_cons_succ, List.getElem?_toArray, Array.toList, List.mapM_cons, List.mapM_nil, Option.pure_def, Option.bind_eq_bind, g2, g7, g8, g9, g33, g34, g35, g10, q5, fa32_2, hld, hlcv, z2, bfalse, a2, under5, under3, Try.underlying36, w2, w2u, bs22_3, hp', ha, hst, q3, q4, w6, hldw, hbs, hp3, ha4, hcl, q1, q2, nt, nf, call23_8]) <;> exact rfl)))  | ((first | refine OpsP.guard (x := ?_) (b := ?_) ?hj ?hx ?hd ?_ | (refine DrP.guard (d := ?_) (op := ?_) (t := ?_) (p := ?_) (a := ?_) (j := ?_) (w := ?_) (x := ?_) (b := ?_) ?ho ?hj ?hx ?hd ?_; (case ho => rfl)) | refine EvP.condB (c := ?_) ?hx ?_); (try case hj => rfl); (case hx => ((try simp only [val, get_set, get_nil, ofArgs, ofValue, Nat.reduceEqDiff, reduceIte, Option.map_some, g2, g7, g8, g9, g33, g34, g35, g10, q5, fa32_2, hld, hlcv, z2, bfalse, a2, under5, under3, Try.underlying36, w2, w2u, bs22_3, hp', ha, hst, q3, q4, w6, hldw, hbs, hp3, ha4, hcl, q1, q2, nt, nf, call23_8]) <;> exact rfl)); (try case hd => rfl))  | ((first | refine OpsP.undef (x := ?_) ?hj ?hx ?hd ?_ | (refine DrP.undef (d := ?_) (op := ?_) (t := ?_) (p := ?_) (a := ?_) (j := ?_) (w := ?_) (x := ?_) ?ho ?hj ?hx ?hd ?_; (case ho => rfl))); (case hj => rfl); (case hx => ((try simp only [val, get_set, get_nil, ofArgs, ofValue, Nat.reduceEqDiff, reduceIte, Option.map_some, g2, g7, g8, g9, g33, g34, g35, g10, q5, fa32_2, hld, hlcv, z2, bfalse, a2, under5, under3, Try.underlying36, w2, w2u, bs22_3, hp', ha, hst, q3, q4, w6, hldw, hbs, hp3, ha4, hcl, q1, q2, nt, nf, call23_8]) <;> exact rfl)); (case hd => rfl)))
                refine ⟨_, rfl, ?_⟩
                simp only [oneOf, get_set, Nat.reduceEqDiff, reduceIte]
              | false =>
                have hcl : ∀ run : Run, callE Try.prog ov23 run 12 [v4] h4 = some (.int .i64 (.ofNat j), h4) := hcl
                have chk_ : True := by simp only [g2, g7, g8, g9, g33, g34, g35, g10, q5, fa32_2, hld, hlcv, z2, bfalse, a2, under5, under3, Try.underlying36, w2, w2u, bs22_3, hp', ha, hst, q3, q4, w6, hldw, hbs, hp3, ha4, hcl, q1, q2, nt, nf, call23_8]
                clear chk_
                repeat (first | refine EvP.seq ?_ | refine EvP.region ?_ | refine OpsP.nil ?_ | refine GuardP.no ?_ | refine DGuardP.no ?_ | refine DrP.nil ?_ | refine CondP.t ?_ | refine CondP.f ?_ | refine EvP.ret ?_ | refine EvP.skip ?_ | refine EvP.exit ?_ | refine EvP.block ?_ | refine EvP.scope ?_  | ((first | refine OpsP.put (v := ?_) (h1 := ?_) ?hd ?he ?_ | refine OpsP.eff (v := ?_) (h1 := ?_) ?he ?_ | refine GuardP.yes (v := ?_) (h1 := ?_) ?he ?_  | (refine DrP.put (d := ?_) (op := ?_) (t := ?_) (p := ?_) (a := ?_) (v := ?_) (h1 := ?_) ?ho ?hd ?he ?_; (case ho => rfl)) | (refine DrP.eff (op := ?_) (t := ?_) (p := ?_) (a := ?_) (v := ?_) (h1 := ?_) ?ho ?he ?_; (case ho => rfl)) | refine DGuardP.yes (v := ?_) (h1 := ?_) ?he ?_); (try case hd => rfl); (case he => intro run; ((try simp only [evOp, evA, val, vals, oval, parts, get_set, get_nil, ofArgs, ofValue, binOpE, arith, convertE, unOpE, builtinE, callV, List.nil_append, List.append_nil, Option.bind_some, Option.map_some, Nat.reduceEqDiff, reduceIte, Bool.not_true, Bool.not_false, List.getElem?_cons_zero, List.getElem?_cons_succ, List.getElem?_toArray, Array.toList, List.mapM_cons, List.mapM_nil, Option.pure_def, Option.bind_eq_bind, g2, g7, g8, g9, g33, g34, g35, g10, q5, fa32_2, hld, hlcv, z2, bfalse, a2, under5, under3, Try.underlying36, w2, w2u, bs22_3, hp', ha, hst, q3, q4, w6, hldw, hbs, hp3, ha4, hcl, q1, q2, nt, nf, call23_8]) <;> exact rfl)))  | ((first | refine OpsP.guard (x := ?_) (b := ?_) ?hj ?hx ?hd ?_ | (refine DrP.guard (d := ?_) (op := ?_) (t := ?_) (p := ?_) (a := ?_) (j := ?_) (w := ?_) (x := ?_) (b := ?_) ?ho ?hj ?hx ?hd ?_; (case ho => rfl)) | refine EvP.condB (c := ?_) ?hx ?_); (try case hj => rfl); (case hx => ((try simp only [val, get_set, get_nil, ofArgs, ofValue, Nat.reduceEqDiff, reduceIte, Option.map_some, g2, g7, g8, g9, g33, g34, g35, g10, q5, fa32_2, hld, hlcv, z2, bfalse, a2, under5, under3, Try.underlying36, w2, w2u, bs22_3, hp', ha, hst, q3, q4, w6, hldw, hbs, hp3, ha4, hcl, q1, q2, nt, nf, call23_8]) <;> exact rfl)); (try case hd => rfl))  | ((first | refine OpsP.undef (x := ?_) ?hj ?hx ?hd ?_ | (refine DrP.undef (d := ?_) (op := ?_) (t := ?_) (p := ?_) (a := ?_) (j := ?_) (w := ?_) (x := ?_) ?ho ?hj ?hx ?hd ?_; (case ho => rfl))); (case hj => rfl); (case hx => ((try simp only [val, get_set, get_nil, ofArgs, ofValue, Nat.reduceEqDiff, reduceIte, Option.map_some, g2, g7, g8, g9, g33, g34, g35, g10, q5, fa32_2, hld, hlcv, z2, bfalse, a2, under5, under3, Try.underlying36, w2, w2u, bs22_3, hp', ha, hst, q3, q4, w6, hldw, hbs, hp3, ha4, hcl, q1, q2, nt, nf, call23_8]) <;> exact rfl)); (case hd => rfl)))
                refine ⟨_, rfl, ?_⟩
                simp only [oneOf, get_set, Nat.reduceEqDiff, reduceIte]
end Go.Ev
