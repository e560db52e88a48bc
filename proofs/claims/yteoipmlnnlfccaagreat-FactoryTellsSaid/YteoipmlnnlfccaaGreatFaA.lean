/-
  What the functions of the package crc and of the document's one compute, by the evaluator; no conditions.
-/
import Derived.Test.YteoipmlnnlfccaaGreatEvD
import Derived.Test.YteoipmlnnlfccaaGreatEvC
import Derived.Test.YteoipmlnnlfccaaGreatProg
import Derived.KernelRfl
namespace Go.Ev
noncomputable section
open Go.Proofs
set_option linter.unusedSimpArgs false
set_option linter.unusedVariables false
set_option maxHeartbeats 2000000
theorem prog_ok : ProgOk Tryz.prog := progOk (by kernel_rfl) (by kernel_rfl)
theorem uU32 : Tryz.prog.underlying 32 = some (.int .u32) := by kernel_rfl
theorem uU8 : Tryz.prog.underlying 5 = some (.int .u8) := by kernel_rfl
theorem uInt : Tryz.prog.underlying 3 = some (.int .i64) := by kernel_rfl
theorem uBytes : Tryz.prog.underlying 25 = some (.slice 5) := by kernel_rfl
theorem uBools : Tryz.prog.underlying 207 = some (.slice 4) := by kernel_rfl
theorem uInts : Tryz.prog.underlying 82 = some (.slice 3) := by kernel_rfl
theorem szU8 : szOf Tryz.prog 5 = some 1 := by kernel_rfl
theorem szBool : szOf Tryz.prog 4 = some 1 := by kernel_rfl
theorem szInt : szOf Tryz.prog 3 = some 1 := by kernel_rfl
theorem szU32 : szOf Tryz.prog 32 = some 1 := by kernel_rfl
theorem aggU8 : isAggB Tryz.prog 5 = some false := by kernel_rfl
theorem aggBool : isAggB Tryz.prog 4 = some false := by kernel_rfl
theorem aggInt : isAggB Tryz.prog 3 = some false := by kernel_rfl
theorem aggU32 : isAggB Tryz.prog 32 = some false := by kernel_rfl
/-! what is called by value -/
theorem mapM_bareV (h : Heap) (d : Nat) (cs : List LV) (hc : cs.all (bareV d) = true) (hf : ∀ v, bareV d v = true → freezeV h d v = some v) : cs.mapM (freezeV h d) = some cs := by
  induction cs with
  | nil => rfl
  | cons c cs ih =>
    rw [List.all_cons, Bool.and_eq_true] at hc
    simp only [List.mapM_cons, hf c hc.1, ih hc.2, Option.pure_def, Option.bind_eq_bind, Option.bind_some]
/-! bytes, by value -/
def u8s (cs : List Nat) : List LV := cs.map fun x => .int .u8 (.ofNat x)
def nat8 : LV → Option Nat
  | .int .u8 (.ofNat x) => if x < 256 then some x else none
  | _ => none
def bytesOf : LV → Option (List Nat)
  | .nils => some []
  | .vs cells n => if cells.length = n ∧ n < 1048576 then cells.mapM nat8 else none
  | _ => none
theorem mapM_nat8 : ∀ (cells : List LV) (cs : List Nat), cells.mapM nat8 = some cs → cells = u8s cs ∧ ∀ x ∈ cs, x < 256
  | [], cs, h => by simp at h; subst h; exact ⟨rfl, by simp⟩
  | c :: cells, cs, h => by
    simp only [List.mapM_cons, Option.pure_def, Option.bind_eq_bind] at h
    obtain ⟨x, h1, h⟩ := bnd h
    obtain ⟨xs, h2, h⟩ := bnd h
    cases h
    have hc : c = .int .u8 (.ofNat x) ∧ x < 256 := by
      unfold nat8 at h1
      split at h1
      · split at h1
        · cases h1; exact ⟨rfl, by assumption⟩
        · cases h1
      · cases h1
    obtain ⟨k1, k2⟩ := mapM_nat8 cells xs h2
    refine ⟨by rw [hc.1, k1]; rfl, fun y hy => ?_⟩
    rcases List.mem_cons.1 hy with rfl | hy
    · exact hc.2
    · exact k2 y hy
theorem bytesOf_shape {v : LV} {cs : List Nat} (h : bytesOf v = some cs) : ((v = .nils ∧ cs = []) ∨ v = .vs (u8s cs) cs.length) ∧ (∀ x ∈ cs, x < 256) ∧ cs.length < 1048576 := by
  unfold bytesOf at h
  split at h
  · cases h; exact ⟨.inl ⟨rfl, rfl⟩, by simp, by decide⟩
  · rename_i cells n
    split at h
    · rename_i hn
      obtain ⟨k1, k2⟩ := mapM_nat8 cells cs h
      have hl : cs.length = n := by rw [← hn.1, k1]; simp [u8s]
      refine ⟨.inr (by rw [k1, hl]), k2, by omega⟩
    · cases h
  · cases h
theorem bytes_len {v : LV} {cs : List Nat} (h : bytesOf v = some cs) (hp : Heap) : lenE Tryz.prog 25 v hp = some (.int .i64 (.ofNat cs.length)) := by
  rcases (bytesOf_shape h).1 with ⟨rfl, rfl⟩ | rfl
  · simp only [lenE, uBytes, lenOf?, Option.map_some]; rfl
  · simp only [lenE, uBytes, lenOf?, Option.map_some]
theorem bytes_at {v : LV} {cs : List Nat} (h : bytesOf v = some cs) (i : Nat) (hi : i < cs.length) :
    ∃ p, indexAddrOp Tryz.prog 25 v (.int .i64 (.ofNat i)) = some p ∧ ∀ hp, loadAt Tryz.prog 5 p hp = some (.int .u8 (.ofNat cs[i])) := by
  rcases (bytesOf_shape h).1 with ⟨rfl, rfl⟩ | rfl
  · simp at hi
  · refine ⟨.vptr ((u8s cs).drop (i * 1)), ?_, fun hp => ?_⟩
    · have h1 : Nat.blt i cs.length = true := by rw [blt_eq]; simp [hi]
      have h2 : Nat.ble (i * 1) (u8s cs).length = true := by rw [ble_eq]; simp [u8s]; omega
      simp only [indexAddrOp, asNat?, Option.bind_some, uBytes, szU8, h1, h2, Bool.and_self]
    · simp only [loadAt, aggU8, Nat.mul_one]
      rw [List.head?_drop]
      simp [u8s, List.getElem?_eq_getElem hi]
def tab : List (Nat × List Nat × Nat × Nat × Nat × Bool × Bool) := [(1, [68, 85, 80], 1, 2, 0, false, false),
  (2, [68, 82, 79, 80], 1, 0, 0, false, false),
  (3, [83, 87, 65, 80], 2, 2, 0, false, false),
  (4, [79, 86, 69, 82], 2, 3, 0, false, false),
  (5, [82, 79, 84], 3, 3, 0, false, false),
  (6, [63, 68, 85, 80], 1, 1, 0, false, false),
  (7, [78, 73, 80], 2, 1, 0, false, false),
  (8, [84, 85, 67, 75], 2, 3, 0, false, false),
  (9, [50, 68, 85, 80], 2, 4, 0, false, false),
  (10, [50, 68, 82, 79, 80], 2, 0, 0, false, false),
  (11, [50, 83, 87, 65, 80], 4, 4, 0, false, false),
  (12, [50, 79, 86, 69, 82], 4, 6, 0, false, false),
  (13, [68, 69, 80, 84, 72], 0, 1, 0, false, false),
  (14, [80, 73, 67, 75], 1, 1, 0, false, false),
  (15, [82, 79, 76, 76], 1, 0, 0, false, false),
  (16, [43], 2, 1, 0, false, false),
  (17, [45], 2, 1, 0, false, false),
  (18, [42], 2, 1, 0, false, false),
  (19, [47], 2, 1, 0, false, false),
  (20, [77, 79, 68], 2, 1, 0, false, false),
  (21, [47, 77, 79, 68], 2, 2, 0, false, false),
  (22, [42, 47], 3, 1, 0, false, false),
  (23, [42, 47, 77, 79, 68], 3, 2, 0, false, false),
  (24, [78, 69, 71, 65, 84, 69], 1, 1, 0, false, false),
  (25, [65, 66, 83], 1, 1, 0, false, false),
  (26, [77, 73, 78], 2, 1, 0, false, false),
  (27, [77, 65, 88], 2, 1, 0, false, false),
  (28, [49, 43], 1, 1, 0, false, false),
  (29, [49, 45], 1, 1, 0, false, false),
  (30, [50, 42], 1, 1, 0, false, false),
  (31, [50, 47], 1, 1, 0, false, false),
  (32, [85, 77, 42], 2, 2, 0, false, false),
  (33, [77, 42], 2, 2, 0, false, false),
  (34, [85, 77, 47, 77, 79, 68], 3, 2, 0, false, false),
  (35, [70, 77, 47, 77, 79, 68], 3, 2, 0, false, false),
  (36, [83, 77, 47, 82, 69, 77], 3, 2, 0, false, false),
  (37, [83, 62, 68], 1, 2, 0, false, false),
  (38, [68, 43], 4, 2, 0, false, false),
  (39, [68, 78, 69, 71, 65, 84, 69], 2, 2, 0, false, false),
  (40, [65, 78, 68], 2, 1, 0, false, false),
  (41, [79, 82], 2, 1, 0, false, false),
  (42, [88, 79, 82], 2, 1, 0, false, false),
  (43, [73, 78, 86, 69, 82, 84], 1, 1, 0, false, false),
  (44, [76, 83, 72, 73, 70, 84], 2, 1, 0, false, false),
  (45, [82, 83, 72, 73, 70, 84], 2, 1, 0, false, false),
  (46, [61], 2, 1, 0, false, false),
  (47, [60, 62], 2, 1, 0, false, false),
  (48, [60], 2, 1, 0, false, false),
  (49, [62], 2, 1, 0, false, false),
  (50, [85, 60], 2, 1, 0, false, false),
  (51, [85, 62], 2, 1, 0, false, false),
  (52, [48, 61], 1, 1, 0, false, false),
  (53, [48, 60], 1, 1, 0, false, false),
  (54, [48, 62], 1, 1, 0, false, false),
  (55, [87, 73, 84, 72, 73, 78], 3, 1, 0, false, false),
  (56, [64], 1, 1, 0, false, false),
  (57, [33], 2, 0, 0, false, false),
  (58, [67, 64], 1, 1, 0, false, false),
  (59, [67, 33], 2, 0, 0, false, false),
  (60, [43, 33], 2, 0, 0, false, false),
  (61, [50, 64], 1, 2, 0, false, false),
  (62, [50, 33], 3, 0, 0, false, false),
  (63, [77, 79, 86, 69], 3, 0, 0, false, false),
  (64, [70, 73, 76, 76], 3, 0, 0, false, false),
  (65, [67, 69, 76, 76, 43], 1, 1, 0, false, false),
  (66, [67, 69, 76, 76, 83], 1, 1, 0, false, false),
  (67, [67, 72, 65, 82, 43], 1, 1, 0, false, false),
  (68, [67, 72, 65, 82, 83], 1, 1, 0, false, false),
  (69, [65, 76, 73, 71, 78, 69, 68], 1, 1, 0, false, false),
  (70, [67, 79, 85, 78, 84], 1, 2, 0, false, false),
  (71, [62, 82], 1, 0, 0, false, false),
  (72, [82, 62], 0, 1, 0, false, false),
  (73, [82, 64], 0, 1, 0, false, false),
  (101, [69, 88, 73, 84], 0, 0, 0, false, false),
  (102, [40, 76, 73, 84, 41], 0, 1, 1, false, false),
  (103, [40, 66, 82, 65, 78, 67, 72, 41], 0, 0, 1, false, true),
  (104, [40, 48, 66, 82, 65, 78, 67, 72, 41], 1, 0, 1, false, true),
  (105, [40, 68, 79, 41], 2, 0, 0, false, false),
  (106, [40, 63, 68, 79, 41], 2, 0, 1, false, true),
  (107, [40, 76, 79, 79, 80, 41], 0, 0, 1, false, true),
  (108, [40, 43, 76, 79, 79, 80, 41], 1, 0, 1, false, true),
  (109, [73], 0, 1, 0, false, false),
  (110, [74], 0, 1, 0, false, false),
  (111, [85, 78, 76, 79, 79, 80], 0, 0, 0, false, false),
  (112, [69, 88, 69, 67, 85, 84, 69], 1, 0, 0, false, false),
  (113, [67, 65, 84, 67, 72], 1, 1, 0, false, false),
  (114, [84, 72, 82, 79, 87], 1, 0, 0, false, false),
  (115, [40, 83, 34, 41], 0, 2, 1, true, false),
  (116, [40, 46, 34, 41], 0, 0, 1, true, false),
  (117, [69, 77, 73, 84], 1, 0, 0, false, false),
  (118, [84, 89, 80, 69], 2, 0, 0, false, false),
  (119, [67, 82], 0, 0, 0, false, false),
  (120, [83, 80, 65, 67, 69], 0, 0, 0, false, false),
  (121, [83, 80, 65, 67, 69, 83], 1, 0, 0, false, false),
  (122, [72, 69, 82, 69], 0, 1, 0, false, false),
  (123, [65, 76, 76, 79, 84], 1, 0, 0, false, false),
  (124, [44], 1, 0, 0, false, false),
  (125, [67, 44], 1, 0, 0, false, false),
  (126, [65, 76, 73, 71, 78], 0, 0, 0, false, false),
  (127, [66, 65, 83, 69], 0, 1, 0, false, false),
  (128, [83, 84, 65, 84, 69], 0, 1, 0, false, false),
  (129, [60, 35], 0, 0, 0, false, false),
  (130, [35], 2, 2, 0, false, false),
  (131, [35, 83], 2, 2, 0, false, false),
  (132, [35, 62], 2, 2, 0, false, false),
  (133, [72, 79, 76, 68], 1, 0, 0, false, false),
  (134, [83, 73, 71, 78], 1, 0, 0, false, false),
  (135, [46], 1, 0, 0, false, false),
  (136, [85, 46], 1, 0, 0, false, false),
  (137, [65, 66, 79, 82, 84], 0, 0, 0, false, false),
  (138, [40, 68, 79, 69, 83, 41], 0, 0, 1, false, true),
  (139, [40, 71, 79, 41], 0, 0, 2, false, false),
  (140, [67, 82, 69, 65, 84, 69], 0, 0, 0, false, false)]
abbrev Row := Nat × List Nat × Nat × Nat × Nat × Bool × Bool
def rowLV : Row → List LV
  | (a, b, c, d, e, f, g) => [.int .u32 (.ofNat a), .str b, .int .i64 (.ofNat c), .int .i64 (.ofNat d), .int .i64 (.ofNat e), .bool f, .bool g]
def tabCells : List LV := tab.flatMap rowLV

def fTable : Pure
  | [] => some (none, fun _ => .agg tabCells)
  | _ => none
/-! crc.Add -/
def crcTab : List Nat := [0, 498536548, 997073096, 651767980, 1994146192, 1802195444, 1303535960, 1342533948, 3988292384, 4027552580, 3604390888, 3412177804, 2607071920, 2262029012, 2685067896, 3183342108]
theorem len16 : crcTab.length = 16 := rfl
def fTab : Pure
  | [] => some (none, fun _ => .agg (crcTab.map fun x => .int .u32 (.ofNat x)))
  | _ => none
def ov0 : Ov := Ov.raw (fun _ => none) 132
theorem ov0_ok : OvOk Tryz.prog ov0 := by
  refine Ov.raw_ok (P := Tryz.prog) (fn := (Tryz.prog.funcs[132]?).getD default) (ps := #[3]) (t := 25) (e := 5) (fun f G h => by cases h) ?_ ?_ ?_ ?_ ?_ uBytes
  · kernel_rfl
  · kernel_rfl
  · kernel_rfl
  · kernel_rfl
  · kernel_rfl
theorem table_ok : PureOk Tryz.prog ov0 43 fTable := pureOk_run fun vs p hp => by
  cases vs with
  | nil => cases hp; exact ⟨60, by kernel_rfl⟩
  | cons _ _ => cases hp
def ovT : Ov := Ov.with ov0 43 fTable
theorem ovT_ok : OvOk Tryz.prog ovT := Ov.with_ok prog_ok ov0_ok table_ok
theorem tab_ok : PureOk Tryz.prog ovT 187 fTab := pureOk_run fun vs p hp => by
  cases vs with
  | nil => cases hp; exact ⟨60, by kernel_rfl⟩
  | cons _ _ => cases hp
def fo1 : Ov := Ov.with ovT 187 fTab
theorem fo1_ok : OvOk Tryz.prog fo1 := Ov.with_ok prog_ok ovT_ok tab_ok
end
end Go.Ev

namespace Go.Ev
noncomputable section
open Go.Proofs
set_option linter.unusedSimpArgs false
set_option linter.unusedVariables false
set_option maxHeartbeats 2000000
/-! crc.Add -/
def nib (s : Nat) : Nat := (s / 16) ^^^ crcTab.getD (s % 16) 0
def crcAdd (s : Nat) (cs : List Nat) : Nat := cs.foldl (fun s x => nib (nib (s ^^^ x))) s
def fAdd : Pure
  | [.int .u32 (.ofNat s), v] => (bytesOf v).bind fun cs => if s < 4294967296 then some (none, fun _ => .int .u32 (.ofNat (crcAdd s cs))) else none
  | _ => none
theorem tab_lt : ∀ k, k < 16 → crcTab.getD k 0 < 4294967296 := by decide
theorem nib_lt {s : Nat} (h : s < 4294967296) : nib s < 4294967296 := by
  unfold nib
  have h1 := tab_lt (s % 16) (Nat.mod_lt _ (by decide))
  exact Nat.xor_lt_two_pow (n := 32) (by omega) h1
theorem and15 (s : Nat) : Nat.land s 15 = s % 16 := Nat.and_two_pow_sub_one_eq_mod s 4
theorem tabArr : Tryz.prog.underlying 266 = some (.array 16 32) := by kernel_rfl
theorem aggTab : isAggB Tryz.prog 266 = some true := by kernel_rfl
theorem szTab : szOf Tryz.prog 266 = some 16 := by kernel_rfl
theorem zeroTab : zeroLV Tryz.prog 266 = some (.agg (List.replicate 16 (.int .u32 0))) := by kernel_rfl
theorem call1_tab (run : Run) (h : Heap) : callE Tryz.prog fo1 run 187 [] h = some (.agg (crcTab.map fun x => .int .u32 (.ofNat x)), h) := rfl
def tabRow : HObj := .row (crcTab.map fun x => .int .u32 (.ofNat x)) 0 0
theorem ia_tab (k : Nat) (hk : k < 16) : indexAddrOp Tryz.prog 266 (.ptr 0 0 0) (.int .u32 (.ofNat k)) = some (.ptr 0 0 k) := by
  have h1 : Nat.blt k 16 = true := by rw [blt_eq]; simp [hk]
  simp only [indexAddrOp, asNat?, Option.bind_some, tabArr, szU32, h1, Nat.mul_one, Nat.zero_add]
theorem ld_tab16 {h : Heap} (hh : h.get 0 = some tabRow) (k : Nat) (hk : k < 16) : loadAt Tryz.prog 32 (.ptr 0 0 k) h = some (.int .u32 (.ofNat (crcTab.getD k 0))) := by
  have h1 : Nat.ble (k + 1) (crcTab.map fun x => LV.int .u32 (.ofNat x)).length = true := by rw [ble_eq]; simp [crcTab]; omega
  simp only [loadAt, aggU32, readN, hh, tabRow, isHi, Nat.beq, h1, Bool.and_self, Option.bind_some]
  rw [List.head?_take, List.head?_drop]
  simp [List.getElem?_map, List.getD_eq_getElem?_getD]
  have hl : k < crcTab.length := hk
  rw [List.getElem?_eq_getElem hl]
  simp
theorem add_body (s : Nat) (v : LV) (cs : List Nat) (hv : bytesOf v = some cs) (hs : s < 4294967296) : ∃ r h1, Evc Tryz.prog fo1 165 [.int .u32 (.ofNat s), v] Heap.empty (r, h1) ∧ r = .int .u32 (.ofNat (crcAdd s cs)) := by
  have hlen := bytes_len hv
  obtain ⟨_, hlt8, hln⟩ := bytesOf_shape hv
  have st : storeAt Tryz.prog 266 (.ptr 0 0 0) (.agg (crcTab.map fun x => .int .u32 (.ofNat x))) (Heap.empty.new (.row (List.replicate 16 (.int .u32 0)) 0 0)).2 = some ((Heap.empty.new (.row (List.replicate 16 (.int .u32 0)) 0 0)).2.set 0 tabRow) := by
    have e2 : (Heap.empty.new (.row (List.replicate 16 (LV.int .u32 0)) 0 0)).2.get 0 = some (.row (List.replicate 16 (.int .u32 0)) 0 0) := by rw [hget_new, hnext_empty, if_pos rfl]
    simp only [storeAt, szTab, Option.bind_some, writeN, e2]
    rfl
  refine Evc.of rfl Tryz.func165 rfl rfl ?_
  have chk_ : True := by simp only [call1_tab, zeroTab, LV.cells, putNew_eq, hnext_empty, st, hlen]
  clear chk_
  repeat (first | refine EvP.seq ?_ | refine EvP.region ?_ | refine OpsP.nil ?_ | refine GuardP.no ?_ | refine DGuardP.no ?_ | refine DrP.nil ?_ | refine CondP.t ?_ | refine CondP.f ?_ | refine EvP.ret ?_ | refine EvP.skip ?_ | refine EvP.exit ?_ | refine EvP.block ?_ | refine EvP.scope ?_  | ((first | refine OpsP.put (v := ?_) (h1 := ?_) ?hd ?he ?_ | refine OpsP.eff (v := ?_) (h1 := ?_) ?he ?_ | refine GuardP.yes (v := ?_) (h1 := ?_) ?he ?_  | (refine DrP.put (d := ?_) (op := ?_) (t := ?_) (p := ?_) (a := ?_) (v := ?_) (h1 := ?_) ?ho ?hd ?he ?_; (case ho => rfl)) | (refine DrP.eff (op := ?_) (t := ?_) (p := ?_) (a := ?_) (v := ?_) (h1 := ?_) ?ho ?he ?_; (case ho => rfl)) | refine DGuardP.yes (v := ?_) (h1 := ?_) ?he ?_); (try case hd => rfl); (case he => intro run; ((try simp only [evOp, evA, val, vals, oval, parts, get_set, get_nil, ofArgs, ofValue, binOpE, arith, ilt, convertE, unOpE, builtinE, callV, List.nil_append, List.append_nil, Option.bind_some, Option.map_some, Nat.reduceEqDiff, reduceIte, Bool.not_true, Bool.not_false, List.getElem?_cons_zero, List.getElem?_cons_succ, List.getElem?_toArray, Array.toList, List.mapM_cons, List.mapM_nil, Option.pure_def, Option.bind_eq_bind, call1_tab, zeroTab, LV.cells, putNew_eq, hnext_empty, st, hlen]) <;> exact rfl)))  | ((first | refine OpsP.guard (x := ?_) (b := ?_) ?hj ?hx ?hd ?_ | (refine DrP.guard (d := ?_) (op := ?_) (t := ?_) (p := ?_) (a := ?_) (j := ?_) (w := ?_) (x := ?_) (b := ?_) ?ho ?hj ?hx ?hd ?_; (case ho => rfl)) | refine EvP.condB (c := ?_) ?hx ?_); (try case hj => rfl); (case hx => ((try simp only [val, get_set, get_nil, ofArgs, ofValue, Nat.reduceEqDiff, reduceIte, Option.map_some, call1_tab, zeroTab, LV.cells, putNew_eq, hnext_empty, st, hlen]) <;> exact rfl)); (try case hd => rfl)))
  refine EvP.loop (fun m tm h => h.get 0 = some tabRow ∧ tm.get 5 = .ptr 0 0 0 ∧ tm.get 9 = v ∧ tm.get 10 = .int .i64 (.ofNat cs.length) ∧
    ∃ i s', m = cs.length - i ∧ i ≤ cs.length ∧ tm.get 11 = .int .i64 (.ofNat i) ∧ tm.get 0 = .int .u32 (.ofNat s') ∧ s' < 4294967296 ∧ crcAdd s' (cs.drop i) = crcAdd s cs) cs.length ?_ ?_
  · refine ⟨?_, ?_, ?_, ?_, 0, s, rfl, Nat.zero_le _, ?_, ?_, hs, rfl⟩
    · rw [hget_set, if_pos rfl]
    · exact (by (try simp only [val, get_set, get_nil, ofArgs, ofValue, Nat.reduceEqDiff, reduceIte, Option.map_some]) <;> exact rfl)
    · exact (by (try simp only [val, get_set, get_nil, ofArgs, ofValue, Nat.reduceEqDiff, reduceIte, Option.map_some]) <;> exact rfl)
    · exact (by (try simp only [val, get_set, get_nil, ofArgs, ofValue, Nat.reduceEqDiff, reduceIte, Option.map_some]) <;> exact rfl)
    · exact (by (try simp only [val, get_set, get_nil, ofArgs, ofValue, Nat.reduceEqDiff, reduceIte, Option.map_some]) <;> exact rfl)
    · exact (by (try simp only [val, get_set, get_nil, ofArgs, ofValue, Nat.reduceEqDiff, reduceIte, Option.map_some]) <;> exact rfl)
  · rintro m tm h ⟨hh, g5, g9, g10, i, s', rfl, hi, g11, g0, hs', hc⟩
    by_cases hlt : i < cs.length
    · have f1 : Nat.blt i cs.length = true := by rw [blt_eq]; simp [hlt]
      obtain ⟨p, hp1, hp2⟩ := bytes_at hv i hlt
      have hd : cs.drop i = cs[i] :: cs.drop (i + 1) := List.drop_eq_getElem_cons hlt
      have hx := hlt8 cs[i] (List.getElem_mem hlt)
      rw [hd] at hc
      generalize cs[i] = x at *
      have hxs : s' ^^^ x < 4294967296 := Nat.xor_lt_two_pow (n := 32) hs' (by omega)
      have w1 : wrap .u32 (Int.ofNat x) = .ofNat x := wrap_u .u32 rfl x (by simp only [pow2]; omega)
      have b : ∀ a, a < 4294967296 → bitsOf .u32 (.ofNat a) = a := fun a ha => Nat.mod_eq_of_lt ha
      have b15 : bitsOf .u32 15 = 15 := rfl
      have u : ∀ a, unwrapU .u32 a = .ofNat a := fun a => rfl
      have e1 : bitsOf .u32 (.ofNat s') = s' := b s' hs'
      have e2 : bitsOf .u32 (.ofNat x) = x := b x (by omega)
      have x1 : Nat.xor s' x = s' ^^^ x := rfl
      generalize ha : s' ^^^ x = a at *
      have sh : ∀ a, shiftOp .shr .u32 (.ofNat a) 4 = some (.int .u32 (.ofNat (a / 16))) := fun a => by cases a <;> rfl
      have e3 : bitsOf .u32 (.ofNat a) = a := b a hxs
      have m1 : a % 16 < 16 := Nat.mod_lt _ (by decide)
      have t1 := tab_lt _ m1
      have e4 : bitsOf .u32 (.ofNat (a / 16)) = a / 16 := b _ (by omega)
      have e5 : bitsOf .u32 (.ofNat (crcTab.getD (a % 16) 0)) = crcTab.getD (a % 16) 0 := b _ t1
      have x2 : Nat.xor (a / 16) (crcTab.getD (a % 16) 0) = nib a := rfl
      have hn1 := nib_lt hxs
      have l1 := ld_tab16 hh (a % 16) m1
      have i1 := ia_tab (a % 16) m1
      have hnn : nib (nib (s' ^^^ x)) = nib (nib a) := by rw [ha]
      generalize hc2 : nib a = c at *
      have e6 : bitsOf .u32 (.ofNat c) = c := b c hn1
      have m2 : c % 16 < 16 := Nat.mod_lt _ (by decide)
      have t2 := tab_lt _ m2
      have e7 : bitsOf .u32 (.ofNat (c / 16)) = c / 16 := b _ (by omega)
      have e8 : bitsOf .u32 (.ofNat (crcTab.getD (c % 16) 0)) = crcTab.getD (c % 16) 0 := b _ t2
      have x3 : Nat.xor (c / 16) (crcTab.getD (c % 16) 0) = nib c := rfl
      have l2 := ld_tab16 hh (c % 16) m2
      have i2 := ia_tab (c % 16) m2
      have chk_ : True := by simp only [g5, g9, g10, g11, g0, f1, hp1, hp2, uU8, uU32, w1, e1, e2, u, x1, sh, and15, b15, e3, e4, e5, x2, i1, l1, e6, e7, e8, x3, i2, l2]
      clear chk_
      repeat (first | refine EvP.seq ?_ | refine EvP.region ?_ | refine OpsP.nil ?_ | refine GuardP.no ?_ | refine DGuardP.no ?_ | refine DrP.nil ?_ | refine CondP.t ?_ | refine CondP.f ?_ | refine EvP.ret ?_ | refine EvP.skip ?_ | refine EvP.exit ?_ | refine EvP.block ?_ | refine EvP.scope ?_  | ((first | refine OpsP.put (v := ?_) (h1 := ?_) ?hd ?he ?_ | refine OpsP.eff (v := ?_) (h1 := ?_) ?he ?_ | refine GuardP.yes (v := ?_) (h1 := ?_) ?he ?_  | (refine DrP.put (d := ?_) (op := ?_) (t := ?_) (p := ?_) (a := ?_) (v := ?_) (h1 := ?_) ?ho ?hd ?he ?_; (case ho => rfl)) | (refine DrP.eff (op := ?_) (t := ?_) (p := ?_) (a := ?_) (v := ?_) (h1 := ?_) ?ho ?he ?_; (case ho => rfl)) | refine DGuardP.yes (v := ?_) (h1 := ?_) ?he ?_); (try case hd => rfl); (case he => intro run; ((try simp only [evOp, evA, val, vals, oval, parts, get_set, get_nil, ofArgs, ofValue, binOpE, arith, ilt, convertE, unOpE, builtinE, callV, List.nil_append, List.append_nil, Option.bind_some, Option.map_some, Nat.reduceEqDiff, reduceIte, Bool.not_true, Bool.not_false, List.getElem?_cons_zero, List.getElem?_cons_succ, List.getElem?_toArray, Array.toList, List.mapM_cons, List.mapM_nil, Option.pure_def, Option.bind_eq_bind, g5, g9, g10, g11, g0, f1, hp1, hp2, uU8, uU32, w1, e1, e2, u, x1, sh, and15, b15, e3, e4, e5, x2, i1, l1, e6, e7, e8, x3, i2, l2]) <;> exact rfl)))  | ((first | refine OpsP.guard (x := ?_) (b := ?_) ?hj ?hx ?hd ?_ | (refine DrP.guard (d := ?_) (op := ?_) (t := ?_) (p := ?_) (a := ?_) (j := ?_) (w := ?_) (x := ?_) (b := ?_) ?ho ?hj ?hx ?hd ?_; (case ho => rfl)) | refine EvP.condB (c := ?_) ?hx ?_); (try case hj => rfl); (case hx => ((try simp only [val, get_set, get_nil, ofArgs, ofValue, Nat.reduceEqDiff, reduceIte, Option.map_some, g5, g9, g10, g11, g0, f1, hp1, hp2, uU8, uU32, w1, e1, e2, u, x1, sh, and15, b15, e3, e4, e5, x2, i1, l1, e6, e7, e8, x3, i2, l2]) <;> exact rfl)); (try case hd => rfl)))
      refine ⟨cs.length - (i + 1), by omega, hh, ?_, ?_, ?_, i + 1, nib c, rfl, by omega, ?_, ?_, nib_lt hn1, ?_⟩
      · exact (by (try simp only [val, get_set, get_nil, ofArgs, ofValue, Nat.reduceEqDiff, reduceIte, Option.map_some, g5]) <;> exact rfl)
      · exact (by (try simp only [val, get_set, get_nil, ofArgs, ofValue, Nat.reduceEqDiff, reduceIte, Option.map_some, g9]) <;> exact rfl)
      · exact (by (try simp only [val, get_set, get_nil, ofArgs, ofValue, Nat.reduceEqDiff, reduceIte, Option.map_some, g10]) <;> exact rfl)
      · simp only [get_set, Nat.reduceEqDiff, reduceIte]
        rw [show Int.ofNat i + 1 = Int.ofNat (i + 1) from rfl, wrap_nat .i64 (i + 1) (by simp only [half]; omega)]
      · exact (by (try simp only [val, get_set, get_nil, ofArgs, ofValue, Nat.reduceEqDiff, reduceIte, Option.map_some]) <;> exact rfl)
      · rw [← hc]
        show crcAdd (nib c) (cs.drop (i + 1)) = crcAdd (nib (nib (s' ^^^ x))) (cs.drop (i + 1))
        rw [hnn]
    · have f1 : Nat.blt cs.length cs.length = false := by rw [blt_eq]; simp
      have : i = cs.length := by omega
      subst this
      rw [List.drop_length] at hc
      have chk_ : True := by simp only [g0, g10, g11, f1]
      clear chk_
      repeat (first | refine EvP.seq ?_ | refine EvP.region ?_ | refine OpsP.nil ?_ | refine GuardP.no ?_ | refine DGuardP.no ?_ | refine DrP.nil ?_ | refine CondP.t ?_ | refine CondP.f ?_ | refine EvP.ret ?_ | refine EvP.skip ?_ | refine EvP.exit ?_ | refine EvP.block ?_ | refine EvP.scope ?_  | ((first | refine OpsP.put (v := ?_) (h1 := ?_) ?hd ?he ?_ | refine OpsP.eff (v := ?_) (h1 := ?_) ?he ?_ | refine GuardP.yes (v := ?_) (h1 := ?_) ?he ?_  | (refine DrP.put (d := ?_) (op := ?_) (t := ?_) (p := ?_) (a := ?_) (v := ?_) (h1 := ?_) ?ho ?hd ?he ?_; (case ho => rfl)) | (refine DrP.eff (op := ?_) (t := ?_) (p := ?_) (a := ?_) (v := ?_) (h1 := ?_) ?ho ?he ?_; (case ho => rfl)) | refine DGuardP.yes (v := ?_) (h1 := ?_) ?he ?_); (try case hd => rfl); (case he => intro run; ((try simp only [evOp, evA, val, vals, oval, parts, get_set, get_nil, ofArgs, ofValue, binOpE, arith, ilt, convertE, unOpE, builtinE, lenE, callV, List.nil_append, List.append_nil, Option.bind_some, Option.map_some, Nat.reduceEqDiff, reduceIte, Bool.not_true, Bool.not_false, List.getElem?_cons_zero, List.getElem?_cons_succ, List.getElem?_toArray, Array.toList, List.mapM_cons, List.mapM_nil, Option.pure_def, Option.bind_eq_bind, g0, g10, g11, f1]) <;> exact rfl)))  | ((first | refine OpsP.guard (x := ?_) (b := ?_) ?hj ?hx ?hd ?_ | (refine DrP.guard (d := ?_) (op := ?_) (t := ?_) (p := ?_) (a := ?_) (j := ?_) (w := ?_) (x := ?_) (b := ?_) ?ho ?hj ?hx ?hd ?_; (case ho => rfl)) | refine EvP.condB (c := ?_) ?hx ?_); (try case hj => rfl); (case hx => ((try simp only [val, get_set, get_nil, ofArgs, ofValue, Nat.reduceEqDiff, reduceIte, Option.map_some, g0, g10, g11, f1]) <;> exact rfl)); (try case hd => rfl)))
      refine ⟨_, rfl, ?_⟩
      simp only [oneOf, get_set, Nat.reduceEqDiff, reduceIte]
      rw [← hc]; rfl
theorem add_ok : PureOk Tryz.prog fo1 165 fAdd := pureOk_of fun vs p hp => by
  unfold fAdd at hp
  split at hp
  · rename_i s v
    obtain ⟨cs, hv, hp⟩ := bnd hp
    split at hp
    · rename_i hs
      cases hp
      obtain ⟨r, h1, k1, rfl⟩ := add_body s v cs hv hs
      exact ⟨_, h1, k1, rfl⟩
    · cases hp
  · cases hp
def fo2 : Ov := fo1.with 165 fAdd
theorem fo2_ok : OvOk Tryz.prog fo2 := Ov.with_ok prog_ok fo1_ok add_ok
end
end Go.Ev

namespace Go.Ev
noncomputable section
open Go.Proofs
set_option linter.unusedSimpArgs false
set_option linter.unusedVariables false
set_option maxHeartbeats 2000000
/-! the document's crc: bits -/
def bools (l : List Bool) : List LV := l.map .bool
def wlB (m : Nat) : Nat := if m ≤ 1 then 0 else 1
theorem bytesB : bytesOfT Tryz.prog 4 = some 1 := by kernel_rfl
theorem zeroB : zeroLV Tryz.prog 4 = some (.bool false) := by kernel_rfl
theorem bsB (b : Bool) : buildSliceA Tryz.prog 207 1 [(0, .bool b)] = some (.row [.bool b] 0 0, fun i => .slice i 0 0 1 (some 1) 1) := by kernel_rfl
theorem zerosBB : zerosB Tryz.prog (some 207) = some false := by simp only [zerosB, uBools]
/-- A list of bools that is appended to, one by one. -/
def BL (h : Heap) (v : LV) (L : List Bool) : Prop := (L = [] ∧ v = .nils) ∨ ∃ q b l, L = b :: l ∧ v = .slice q l.length 0 (l.length + 1) none 1 ∧ h.get q = some (.row (bools (b :: l)) l.length (wlB (l.length + 1))) ∧ q < h.next
theorem BL.app {h : Heap} {v : LV} {L : List Bool} (hb : BL h v L) (x : Bool) (hl : L.length < 2 ^ 40) : ∃ v' h', appendE Tryz.prog 207 (some 207) v (.slice h.next 0 0 1 (some 1) 1) (h.new (.row [.bool x] 0 0)).2 = some (v', h') ∧ BL h' v' (L ++ [x]) := by
  have hg : (h.new (.row [.bool x] 0 0)).2.get h.next = some (.row [.bool x] 0 0) := by rw [hget_new, if_pos rfl]
  have hr : readN (h.new (.row [.bool x] 0 0)).2 h.next 0 0 (1 * 1) = some [.bool x] := by simp only [readN, hg]; rfl
  have ha : appended Tryz.prog 4 1 false (.slice h.next 0 0 1 (some 1) 1) (h.new (.row [.bool x] 0 0)).2 = some (1, [.bool x]) := by
    simp only [appended, lenOf?, viewCells, hr, Option.bind_some]; rfl
  have hcl : ([LV.bool x].all LV.isCell) = true := rfl
  have h10 : Nat.beq 1 0 = false := rfl
  rcases hb with ⟨rfl, rfl⟩ | ⟨q, b, l, rfl, rfl, hq, hn⟩
  · have hc : (!Nat.beq 1 0 && Nat.ble ((0 + 1) * 1) maxBytes && Nat.ble (0 + 1) maxBytes && [LV.bool x].all LV.isCell) = true := by
      rw [hcl]; simp only [maxBytes]; decide
    refine ⟨.slice (h.next + 1) 0 0 1 none 1, ((h.new (.row [.bool x] 0 0)).2.new (.row [.bool x] 0 0)).2, ?_, .inr ⟨h.next + 1, x, [], rfl, rfl, ?_, ?_⟩⟩
    · simp only [appendE, uBools, szBool, bytesB, zerosBB, lenOf?, ha, Option.bind_some, hc, freshRow, zeroB, LV.cells]
      rfl
    · rw [hget_new, hnext_new, if_pos rfl]; rfl
    · rw [hnext_new, hnext_new]; omega
  · have hbl : (bools (b :: l)).length = l.length + 1 := by simp [bools]
    have hq' : (h.new (.row [.bool x] 0 0)).2.get q = some (.row (bools (b :: l)) l.length (wlB (l.length + 1))) := by rw [hget_new, if_neg (by omega), hq]
    have hl' : l.length + 1 < 2 ^ 40 := by simpa using hl
    have hc : (!Nat.beq 1 0 && Nat.ble ((l.length + 1 + 1) * 1) maxBytes && Nat.ble (l.length + 1 + 1) maxBytes && [LV.bool x].all LV.isCell) = true := by
      have h1 : Nat.ble ((l.length + 1 + 1) * 1) maxBytes = true := by rw [ble_eq, decide_eq_true_iff]; show _ ≤ 70368744177664; omega
      have h2 : Nat.ble (l.length + 1 + 1) maxBytes = true := by rw [ble_eq, decide_eq_true_iff]; show _ ≤ 70368744177664; omega
      rw [h1, h2]; rfl
    have hx : (Nat.beq l.length l.length && Nat.ble (0 + (l.length + 1 + 1) * 1) (bools (b :: l)).length) = false := by
      have : Nat.ble (0 + (l.length + 1 + 1) * 1) (bools (b :: l)).length = false := by rw [ble_eq, decide_eq_false_iff_not]; omega
      rw [this, Bool.and_false]
    have hr2 : readN (h.new (.row [.bool x] 0 0)).2 q l.length 0 ((l.length + 1) * 1) = some (bools (b :: l)) := by
      rw [readN_all hq' (by omega), List.drop_zero, List.take_of_length_le (by omega)]
    have ht : (bools (b :: l)).take (0 + (l.length + 1) * 1) = bools (b :: l) := List.take_of_length_le (by omega)
    have hw : (0 + (l.length + 1) * 1) = l.length + 1 := by omega
    have h11 : Nat.beq 1 1 = true := rfl
    rw [hbl] at hx
    rw [hw] at ht
    have e1 : bools (b :: l) ++ [LV.bool x] = bools (b :: (l ++ [x])) := by simp [bools]
    refine ⟨.slice q (l.length + 1) 0 (l.length + 1 + 1) none 1, (h.new (.row [.bool x] 0 0)).2.set q (.row (bools (b :: (l ++ [x]))) (l.length + 1) (wlB (l.length + 1 + 1))), ?_, .inr ⟨q, b, l ++ [x], rfl, ?_, ?_, ?_⟩⟩
    · simp only [appendE, uBools, szBool, bytesB, zerosBB, lenOf?, ha, Option.bind_some, hc, hq', hx, hr2, zeroB, LV.cells, h11, ht, hw, hbl, List.length_singleton]
      rw [e1]
      cases l with
      | nil => rfl
      | cons y l => simp [wlB, Nat.beq]
    · simp
    · rw [hget_set, if_pos rfl]; simp
    · rw [hnext_set, hnext_new]; omega
def byteBits : Nat → Nat → List Bool
  | 0, _ => []
  | k + 1, x => decide (x % 2 = 1) :: byteBits k (x / 2)
def bitsL (cs : List Nat) : List Bool := cs.flatMap (byteBits 8)
def turn : Nat → List Bool → List Bool
  | 0, l => l
  | _, [] => []
  | k + 1, b :: l => (!b) :: turn k l
def bitsN (cs : List Nat) : List Bool := turn 32 (bitsL cs ++ List.replicate 32 false)
theorem byteBits_len : ∀ k x, (byteBits k x).length = k
  | 0, _ => rfl
  | k + 1, x => by simp [byteBits, byteBits_len k]
theorem bitsL_len : ∀ cs, (bitsL cs).length = cs.length * 8
  | [] => rfl
  | c :: cs => by
    have := bitsL_len cs
    unfold bitsL at this ⊢
    simp [List.flatMap_cons, byteBits_len, this]; omega
theorem turn_len : ∀ k l, (turn k l).length = l.length
  | 0, l => rfl
  | _ + 1, [] => rfl
  | k + 1, b :: l => by simp [turn, turn_len k l]
theorem turn_succ : ∀ (k : Nat) (l : List Bool) (hk : k < l.length), turn (k + 1) l = (turn k l).set k (!l[k])
  | 0, b :: l, _ => by simp [turn]
  | k + 1, b :: l, hk => by
    have := turn_succ k l (by simpa using hk)
    simp only [turn] at this ⊢
    rw [this]
    simp
theorem turn_get : ∀ (k : Nat) (l : List Bool) (i : Nat), k ≤ i → (turn k l)[i]? = l[i]?
  | 0, l, i, _ => rfl
  | k + 1, [], i, _ => rfl
  | k + 1, b :: l, 0, h => by omega
  | k + 1, b :: l, i + 1, h => by simp [turn, turn_get k l i (by omega)]
end
end Go.Ev

namespace Go.Ev
noncomputable section
open Go.Proofs
set_option linter.unusedSimpArgs false
set_option linter.unusedVariables false
set_option maxHeartbeats 4000000
theorem iaB (q g m i : Nat) (c : Option Nat) (hi : i < m) : indexAddrOp Tryz.prog 207 (.slice q g 0 m c 1) (.int .i64 (.ofNat i)) = some (.ptr q g i) := by
  have h1 : Nat.blt i m = true := by rw [blt_eq]; simp [hi]
  simp only [indexAddrOp, asNat?, Option.bind_some, uBools, szBool, h1, Nat.beq, Bool.and_self, Nat.mul_one, Nat.zero_add]
theorem ldB {h : Heap} {q g w : Nat} {M : List Bool} (hq : h.get q = some (.row (bools M) g w)) (i : Nat) (hi : i < M.length) : loadAt Tryz.prog 4 (.ptr q g i) h = some (.bool M[i]) := by
  have hr : readN h q g i 1 = some [.bool M[i]] := by
    rw [readN_all hq (by simp [bools]; omega), List.drop_eq_getElem_cons (by simpa [bools] using hi)]
    simp [bools]
  simp only [loadAt, aggBool, hr, Option.bind_some, List.head?]
theorem stB {h : Heap} {q g w : Nat} {M : List Bool} (hq : h.get q = some (.row (bools M) (g + 1) w)) (i : Nat) (hi : i < M.length) (x : Bool) : storeAt Tryz.prog 4 (.ptr q (g + 1) i) (.bool x) h = some (h.set q (.row (bools (M.set i x)) (g + 1) (Nat.min w i))) := by
  have e1 : (Nat.beq (LV.bool x).cells.length 1 && (LV.bool x).cells.all LV.isCell) = true := rfl
  have e2 : (Nat.beq (g + 1) (g + 1) && Nat.ble (i + [LV.bool x].length) (bools M).length) = true := by
    have a : Nat.beq (g + 1) (g + 1) = true := by rw [beq_eq]; simp
    have b : Nat.ble (i + [LV.bool x].length) (bools M).length = true := by rw [ble_eq]; simp [bools]; omega
    rw [a, b]; rfl
  have e3 : splice (bools M) i [LV.bool x] = bools (M.set i x) := by
    simp only [splice, bools, List.length_singleton]
    rw [List.set_eq_take_append_cons_drop, if_pos hi]
    simp
  simp only [storeAt, szBool, Option.bind_some, LV.cells] at *
  simp only [e1, writeN, hq, e2, e3]
  rfl
theorem drop_split (L M : List Bool) (k : Nat) (b : Bool) (h : L.drop k = b :: M) : L.take (k + 1) = L.take k ++ [b] ∧ L.drop (k + 1) = M := by
  constructor
  · rw [List.take_add_one]
    have h1 := congrArg List.head? h
    rw [List.head?_drop] at h1
    rw [h1]; rfl
  · have h1 := congrArg List.tail h
    rw [List.tail_drop] at h1
    exact h1
theorem byteBits_take (k x : Nat) : ∀ j, j < k → ∃ y, y ≤ x ∧ (byteBits k x).take (j + 1) = (byteBits k x).take j ++ [decide (y % 2 = 1)] ∧ (byteBits k x).drop j = byteBits (k - j) y ∧ (byteBits k x).drop (j + 1) = byteBits (k - (j + 1)) (y / 2) := by
  induction k generalizing x with
  | zero => intro j hj; omega
  | succ k ih =>
    intro j hj
    cases j with
    | zero => exact ⟨x, Nat.le_refl _, by simp [byteBits], by simp, by simp [byteBits]⟩
    | succ j =>
      obtain ⟨y, h1, h2, h3, h4⟩ := ih (x / 2) j (by omega)
      refine ⟨y, by have := Nat.div_le_self x 2; omega, ?_, ?_, ?_⟩
      · simp only [byteBits, List.take_succ_cons, List.cons_append, h2]
      · simp only [byteBits, List.drop_succ_cons, h3]; rw [show k + 1 - (j + 1) = k - j by omega]
      · simp only [byteBits, List.drop_succ_cons, h4]; rw [show k + 1 - (j + 1 + 1) = k - (j + 1) by omega]
def bitsGift (cs : List Nat) : Gift := (some (.row (bools (bitsN cs)) (cs.length * 8 + 31) 0), fun id => .slice id (cs.length * 8 + 31) 0 (cs.length * 8 + 32) none 1)
def fBits : Pure
  | [v, .int .i64 (.ofNat n)] => (bytesOf v).bind fun cs => if n = 32 then some (bitsGift cs) else none
  | _ => none
theorem bits_body (v : LV) (cs : List Nat) (hv : bytesOf v = some cs) : ∃ r h1, Evc Tryz.prog fo2 129 [v, .int .i64 (.ofNat 32)] Heap.empty (r, h1) ∧ giftE h1 r = some (bitsGift cs) := by
  have hlen := bytes_len hv
  obtain ⟨_, hlt8, hln⟩ := bytesOf_shape hv
  refine Evc.of rfl Tryz.func129 rfl rfl ?_
  repeat (first | refine EvP.seq ?_ | refine EvP.region ?_ | refine OpsP.nil ?_ | refine GuardP.no ?_ | refine DGuardP.no ?_ | refine DrP.nil ?_ | refine CondP.t ?_ | refine CondP.f ?_ | refine EvP.ret ?_ | refine EvP.skip ?_ | refine EvP.exit ?_ | refine EvP.block ?_ | refine EvP.scope ?_  | ((first | refine OpsP.put (v := ?_) (h1 := ?_) ?hd ?he ?_ | refine OpsP.eff (v := ?_) (h1 := ?_) ?he ?_ | refine GuardP.yes (v := ?_) (h1 := ?_) ?he ?_  | (refine DrP.put (d := ?_) (op := ?_) (t := ?_) (p := ?_) (a := ?_) (v := ?_) (h1 := ?_) ?ho ?hd ?he ?_; (case ho => rfl)) | (refine DrP.eff (op := ?_) (t := ?_) (p := ?_) (a := ?_) (v := ?_) (h1 := ?_) ?ho ?he ?_; (case ho => rfl)) | refine DGuardP.yes (v := ?_) (h1 := ?_) ?he ?_); (try case hd => rfl); (case he => intro run; ((try simp only [evOp, evA, val, vals, oval, parts, get_set, get_nil, ofArgs, ofValue, binOpE, arith, ilt, convertE, unOpE, builtinE, lenE, callV, List.nil_append, List.append_nil, Option.bind_some, Option.map_some, Nat.reduceEqDiff, reduceIte, Bool.not_true, Bool.not_false, List.getElem?_cons_zero, List.getElem?_cons_succ, List.getElem?_toArray, Array.toList, List.mapM_cons, List.mapM_nil, Option.pure_def, Option.bind_eq_bind]) <;> exact rfl)))  | ((first | refine OpsP.guard (x := ?_) (b := ?_) ?hj ?hx ?hd ?_ | (refine DrP.guard (d := ?_) (op := ?_) (t := ?_) (p := ?_) (a := ?_) (j := ?_) (w := ?_) (x := ?_) (b := ?_) ?ho ?hj ?hx ?hd ?_; (case ho => rfl)) | refine EvP.condB (c := ?_) ?hx ?_); (try case hj => rfl); (case hx => ((try simp only [val, get_set, get_nil, ofArgs, ofValue, Nat.reduceEqDiff, reduceIte, Option.map_some]) <;> exact rfl)); (try case hd => rfl)))
  refine EvP.loop (fun m tm h => tm.get 0 = v ∧ tm.get 1 = .int .i64 (.ofNat 32) ∧ ∃ i bv, m = cs.length - i ∧ i ≤ cs.length ∧ tm.get 6 = .int .i64 (.ofNat i) ∧ tm.get 5 = bv ∧ BL h bv (bitsL (cs.take i))) cs.length ?_ ?_
  · refine ⟨?_, ?_, 0, .nils, rfl, Nat.zero_le _, ?_, ?_, .inl ⟨rfl, rfl⟩⟩
    · exact (by (try simp only [val, get_set, get_nil, ofArgs, ofValue, Nat.reduceEqDiff, reduceIte, Option.map_some]) <;> exact rfl)
    · exact (by (try simp only [val, get_set, get_nil, ofArgs, ofValue, Nat.reduceEqDiff, reduceIte, Option.map_some]) <;> exact rfl)
    · exact (by (try simp only [val, get_set, get_nil, ofArgs, ofValue, Nat.reduceEqDiff, reduceIte, Option.map_some]) <;> exact rfl)
    · exact (by (try simp only [val, get_set, get_nil, ofArgs, ofValue, Nat.reduceEqDiff, reduceIte, Option.map_some]) <;> exact rfl)
  · rintro m tm h ⟨g0, g1, i, bv, rfl, hi, g6, g5, hbl⟩
    by_cases hlt : i < cs.length
    · have f1 : Nat.blt i cs.length = true := by rw [blt_eq]; simp [hlt]
      obtain ⟨p, hp1, hp2⟩ := bytes_at hv i hlt
      have hx := hlt8 cs[i] (List.getElem_mem hlt)
      have htk : cs.take (i + 1) = cs.take i ++ [cs[i]] := by rw [List.take_add_one, List.getElem?_eq_getElem hlt]; rfl
      generalize cs[i] = x at *
      have chk_ : True := by simp only [g0, g1, g6, g5, hlen, f1, hp1, hp2]
      clear chk_
      repeat (first | refine EvP.seq ?_ | refine EvP.region ?_ | refine OpsP.nil ?_ | refine GuardP.no ?_ | refine DGuardP.no ?_ | refine DrP.nil ?_ | refine CondP.t ?_ | refine CondP.f ?_ | refine EvP.ret ?_ | refine EvP.skip ?_ | refine EvP.exit ?_ | refine EvP.block ?_ | refine EvP.scope ?_  | ((first | refine OpsP.put (v := ?_) (h1 := ?_) ?hd ?he ?_ | refine OpsP.eff (v := ?_) (h1 := ?_) ?he ?_ | refine GuardP.yes (v := ?_) (h1 := ?_) ?he ?_  | (refine DrP.put (d := ?_) (op := ?_) (t := ?_) (p := ?_) (a := ?_) (v := ?_) (h1 := ?_) ?ho ?hd ?he ?_; (case ho => rfl)) | (refine DrP.eff (op := ?_) (t := ?_) (p := ?_) (a := ?_) (v := ?_) (h1 := ?_) ?ho ?he ?_; (case ho => rfl)) | refine DGuardP.yes (v := ?_) (h1 := ?_) ?he ?_); (try case hd => rfl); (case he => intro run; ((try simp only [evOp, evA, val, vals, oval, parts, get_set, get_nil, ofArgs, ofValue, binOpE, arith, ilt, convertE, unOpE, builtinE, callV, List.nil_append, List.append_nil, Option.bind_some, Option.map_some, Nat.reduceEqDiff, reduceIte, Bool.not_true, Bool.not_false, List.getElem?_cons_zero, List.getElem?_cons_succ, List.getElem?_toArray, Array.toList, List.mapM_cons, List.mapM_nil, Option.pure_def, Option.bind_eq_bind, g0, g1, g6, g5, hlen, f1, hp1, hp2]) <;> exact rfl)))  | ((first | refine OpsP.guard (x := ?_) (b := ?_) ?hj ?hx ?hd ?_ | (refine DrP.guard (d := ?_) (op := ?_) (t := ?_) (p := ?_) (a := ?_) (j := ?_) (w := ?_) (x := ?_) (b := ?_) ?ho ?hj ?hx ?hd ?_; (case ho => rfl)) | refine EvP.condB (c := ?_) ?hx ?_); (try case hj => rfl); (case hx => ((try simp only [val, get_set, get_nil, ofArgs, ofValue, Nat.reduceEqDiff, reduceIte, Option.map_some, g0, g1, g6, g5, hlen, f1, hp1, hp2]) <;> exact rfl)); (try case hd => rfl)))
      refine EvP.loop (fun m tm h => tm.get 0 = v ∧ tm.get 1 = .int .i64 (.ofNat 32) ∧ tm.get 6 = .int .i64 (.ofNat i) ∧ ∃ k bv y, m = 8 - k ∧ k ≤ 8 ∧ tm.get 8 = .int .i64 (.ofNat k) ∧ tm.get 7 = .int .u8 (.ofNat y) ∧ y < 256 ∧ (byteBits 8 x).drop k = byteBits (8 - k) y ∧ tm.get 5 = bv ∧ BL h bv (bitsL (cs.take i) ++ (byteBits 8 x).take k)) 8 ?_ ?_
      · refine ⟨?_, ?_, ?_, 0, bv, x, rfl, by omega, ?_, ?_, hx, rfl, ?_, by simpa using hbl⟩
        · exact (by (try simp only [val, get_set, get_nil, ofArgs, ofValue, Nat.reduceEqDiff, reduceIte, Option.map_some, g0]) <;> exact rfl)
        · exact (by (try simp only [val, get_set, get_nil, ofArgs, ofValue, Nat.reduceEqDiff, reduceIte, Option.map_some, g1]) <;> exact rfl)
        · exact (by (try simp only [val, get_set, get_nil, ofArgs, ofValue, Nat.reduceEqDiff, reduceIte, Option.map_some, g6]) <;> exact rfl)
        · exact (by (try simp only [val, get_set, get_nil, ofArgs, ofValue, Nat.reduceEqDiff, reduceIte, Option.map_some]) <;> exact rfl)
        · exact (by (try simp only [val, get_set, get_nil, ofArgs, ofValue, Nat.reduceEqDiff, reduceIte, Option.map_some]) <;> exact rfl)
        · exact (by (try simp only [val, get_set, get_nil, ofArgs, ofValue, Nat.reduceEqDiff, reduceIte, Option.map_some, g5]) <;> exact rfl)
      · clear g0 g1 g6 g5 hbl bv
        rintro m tm h ⟨g0, g1, g6, k, bv, y, rfl, hk, g8, g7, hy, hdr, g5, hbl⟩
        by_cases hlk : k < 8
        · have f2 : Nat.blt k 8 = true := by rw [blt_eq]; simp [hlk]
          have q1 : (Int.ofNat y).tmod 2 = .ofNat (y % 2) := rfl
          have q2 : wrap .u8 ((Int.ofNat y).tdiv 2) = .ofNat (y / 2) := by rw [show (Int.ofNat y).tdiv 2 = Int.ofNat (y / 2) from rfl, wrap_u .u8 rfl (y / 2) (by simp only [pow2]; omega)]
          have q3 : ieq 2 0 = false := rfl
          have q4 : ieq (Int.ofNat (y % 2)) 1 = decide (y % 2 = 1) := by show Nat.beq _ _ = _; rw [beq_eq]
          have bf : (false = true) = False := by simp
          have hlenb : (bitsL (cs.take i) ++ (byteBits 8 x).take k).length < 2 ^ 40 := by
            rw [List.length_append, bitsL_len, List.length_take, List.length_take, byteBits_len]; omega
          obtain ⟨v', h', ha, hb'⟩ := hbl.app (decide (y % 2 = 1)) hlenb
          have htk8 : (byteBits 8 x).take (k + 1) = (byteBits 8 x).take k ++ [decide (y % 2 = 1)] ∧ (byteBits 8 x).drop (k + 1) = byteBits (8 - (k + 1)) (y / 2) := by
            have e1 : 8 - k = (8 - (k + 1)) + 1 := by omega
            rw [e1] at hdr
            simp only [byteBits] at hdr
            exact drop_split _ _ k _ hdr
          have chk_ : True := by simp only [g0, g1, g6, g5, g7, g8, f2, q1, q3, bf, q4, bsB, putNew_eq, ha, q2]
          clear chk_
          repeat (first | refine EvP.seq ?_ | refine EvP.region ?_ | refine OpsP.nil ?_ | refine GuardP.no ?_ | refine DGuardP.no ?_ | refine DrP.nil ?_ | refine CondP.t ?_ | refine CondP.f ?_ | refine EvP.ret ?_ | refine EvP.skip ?_ | refine EvP.exit ?_ | refine EvP.block ?_ | refine EvP.scope ?_  | ((first | refine OpsP.put (v := ?_) (h1 := ?_) ?hd ?he ?_ | refine OpsP.eff (v := ?_) (h1 := ?_) ?he ?_ | refine GuardP.yes (v := ?_) (h1 := ?_) ?he ?_  | (refine DrP.put (d := ?_) (op := ?_) (t := ?_) (p := ?_) (a := ?_) (v := ?_) (h1 := ?_) ?ho ?hd ?he ?_; (case ho => rfl)) | (refine DrP.eff (op := ?_) (t := ?_) (p := ?_) (a := ?_) (v := ?_) (h1 := ?_) ?ho ?he ?_; (case ho => rfl)) | refine DGuardP.yes (v := ?_) (h1 := ?_) ?he ?_); (try case hd => rfl); (case he => intro run; ((try simp only [evOp, evA, val, vals, oval, parts, get_set, get_nil, ofArgs, ofValue, binOpE, arith, ilt, convertE, unOpE, builtinE, callV, List.nil_append, List.append_nil, Option.bind_some, Option.map_some, Nat.reduceEqDiff, reduceIte, Bool.not_true, Bool.not_false, List.getElem?_cons_zero, List.getElem?_cons_succ, List.getElem?_toArray, Array.toList, List.mapM_cons, List.mapM_nil, Option.pure_def, Option.bind_eq_bind, g0, g1, g6, g5, g7, g8, f2, q1, q3, bf, q4, bsB, putNew_eq, ha, q2]) <;> exact rfl)))  | ((first | refine OpsP.guard (x := ?_) (b := ?_) ?hj ?hx ?hd ?_ | (refine DrP.guard (d := ?_) (op := ?_) (t := ?_) (p := ?_) (a := ?_) (j := ?_) (w := ?_) (x := ?_) (b := ?_) ?ho ?hj ?hx ?hd ?_; (case ho => rfl)) | refine EvP.condB (c := ?_) ?hx ?_); (try case hj => rfl); (case hx => ((try simp only [val, get_set, get_nil, ofArgs, ofValue, Nat.reduceEqDiff, reduceIte, Option.map_some, g0, g1, g6, g5, g7, g8, f2, q1, q3, bf, q4, bsB, putNew_eq, ha, q2]) <;> exact rfl)); (try case hd => rfl)))
          refine ⟨8 - (k + 1), by omega, ?_, ?_, ?_, k + 1, v', y / 2, rfl, by omega, ?_, ?_, by omega, htk8.2, ?_, by rw [htk8.1, ← List.append_assoc]; exact hb'⟩
          · exact (by (try simp only [val, get_set, get_nil, ofArgs, ofValue, Nat.reduceEqDiff, reduceIte, Option.map_some, g0]) <;> exact rfl)
          · exact (by (try simp only [val, get_set, get_nil, ofArgs, ofValue, Nat.reduceEqDiff, reduceIte, Option.map_some, g1]) <;> exact rfl)
          · exact (by (try simp only [val, get_set, get_nil, ofArgs, ofValue, Nat.reduceEqDiff, reduceIte, Option.map_some, g6]) <;> exact rfl)
          · simp only [get_set, Nat.reduceEqDiff, reduceIte]
            rw [show Int.ofNat k + 1 = Int.ofNat (k + 1) from rfl, wrap_nat .i64 (k + 1) (by simp only [half]; omega)]
          · exact (by (try simp only [val, get_set, get_nil, ofArgs, ofValue, Nat.reduceEqDiff, reduceIte, Option.map_some]) <;> exact rfl)
          · exact (by (try simp only [val, get_set, get_nil, ofArgs, ofValue, Nat.reduceEqDiff, reduceIte, Option.map_some]) <;> exact rfl)
        · have f2 : Nat.blt 8 8 = false := rfl
          have : k = 8 := by omega
          subst this
          have e8 : (byteBits 8 x).take 8 = byteBits 8 x := List.take_of_length_le (by rw [byteBits_len]; omega)
          rw [e8] at hbl
          have chk_ : True := by simp only [g0, g1, g6, g5, g7, g8, f2]
          clear chk_
          repeat (first | refine EvP.seq ?_ | refine EvP.region ?_ | refine OpsP.nil ?_ | refine GuardP.no ?_ | refine DGuardP.no ?_ | refine DrP.nil ?_ | refine CondP.t ?_ | refine CondP.f ?_ | refine EvP.ret ?_ | refine EvP.skip ?_ | refine EvP.exit ?_ | refine EvP.block ?_ | refine EvP.scope ?_  | ((first | refine OpsP.put (v := ?_) (h1 := ?_) ?hd ?he ?_ | refine OpsP.eff (v := ?_) (h1 := ?_) ?he ?_ | refine GuardP.yes (v := ?_) (h1 := ?_) ?he ?_  | (refine DrP.put (d := ?_) (op := ?_) (t := ?_) (p := ?_) (a := ?_) (v := ?_) (h1 := ?_) ?ho ?hd ?he ?_; (case ho => rfl)) | (refine DrP.eff (op := ?_) (t := ?_) (p := ?_) (a := ?_) (v := ?_) (h1 := ?_) ?ho ?he ?_; (case ho => rfl)) | refine DGuardP.yes (v := ?_) (h1 := ?_) ?he ?_); (try case hd => rfl); (case he => intro run; ((try simp only [evOp, evA, val, vals, oval, parts, get_set, get_nil, ofArgs, ofValue, binOpE, arith, ilt, convertE, unOpE, builtinE, lenE, callV, List.nil_append, List.append_nil, Option.bind_some, Option.map_some, Nat.reduceEqDiff, reduceIte, Bool.not_true, Bool.not_false, List.getElem?_cons_zero, List.getElem?_cons_succ, List.getElem?_toArray, Array.toList, List.mapM_cons, List.mapM_nil, Option.pure_def, Option.bind_eq_bind, g0, g1, g6, g5, g7, g8, f2]) <;> exact rfl)))  | ((first | refine OpsP.guard (x := ?_) (b := ?_) ?hj ?hx ?hd ?_ | (refine DrP.guard (d := ?_) (op := ?_) (t := ?_) (p := ?_) (a := ?_) (j := ?_) (w := ?_) (x := ?_) (b := ?_) ?ho ?hj ?hx ?hd ?_; (case ho => rfl)) | refine EvP.condB (c := ?_) ?hx ?_); (try case hj => rfl); (case hx => ((try simp only [val, get_set, get_nil, ofArgs, ofValue, Nat.reduceEqDiff, reduceIte, Option.map_some, g0, g1, g6, g5, g7, g8, f2]) <;> exact rfl)); (try case hd => rfl)))
          refine ⟨cs.length - (i + 1), by omega, ?_, ?_, i + 1, bv, rfl, by omega, ?_, ?_, ?_⟩
          · exact (by (try simp only [val, get_set, get_nil, ofArgs, ofValue, Nat.reduceEqDiff, reduceIte, Option.map_some, g0]) <;> exact rfl)
          · exact (by (try simp only [val, get_set, get_nil, ofArgs, ofValue, Nat.reduceEqDiff, reduceIte, Option.map_some, g1]) <;> exact rfl)
          · simp only [get_set, Nat.reduceEqDiff, reduceIte]
            rw [show Int.ofNat i + 1 = Int.ofNat (i + 1) from rfl, wrap_nat .i64 (i + 1) (by simp only [half]; omega)]
          · exact (by (try simp only [val, get_set, get_nil, ofArgs, ofValue, Nat.reduceEqDiff, reduceIte, Option.map_some, g5]) <;> exact rfl)
          · rw [htk, bitsL, List.flatMap_append, List.flatMap_cons, List.flatMap_nil, List.append_nil]; exact hbl
    · have f1 : Nat.blt cs.length cs.length = false := by rw [blt_eq]; simp
      have : i = cs.length := by omega
      subst this
      rw [List.take_length] at hbl
      have chk_ : True := by simp only [g0, g1, g6, g5, hlen, f1]
      clear chk_
      repeat (first | refine EvP.seq ?_ | refine EvP.region ?_ | refine OpsP.nil ?_ | refine GuardP.no ?_ | refine DGuardP.no ?_ | refine DrP.nil ?_ | refine CondP.t ?_ | refine CondP.f ?_ | refine EvP.ret ?_ | refine EvP.skip ?_ | refine EvP.exit ?_ | refine EvP.block ?_ | refine EvP.scope ?_  | ((first | refine OpsP.put (v := ?_) (h1 := ?_) ?hd ?he ?_ | refine OpsP.eff (v := ?_) (h1 := ?_) ?he ?_ | refine GuardP.yes (v := ?_) (h1 := ?_) ?he ?_  | (refine DrP.put (d := ?_) (op := ?_) (t := ?_) (p := ?_) (a := ?_) (v := ?_) (h1 := ?_) ?ho ?hd ?he ?_; (case ho => rfl)) | (refine DrP.eff (op := ?_) (t := ?_) (p := ?_) (a := ?_) (v := ?_) (h1 := ?_) ?ho ?he ?_; (case ho => rfl)) | refine DGuardP.yes (v := ?_) (h1 := ?_) ?he ?_); (try case hd => rfl); (case he => intro run; ((try simp only [evOp, evA, val, vals, oval, parts, get_set, get_nil, ofArgs, ofValue, binOpE, arith, ilt, convertE, unOpE, builtinE, callV, List.nil_append, List.append_nil, Option.bind_some, Option.map_some, Nat.reduceEqDiff, reduceIte, Bool.not_true, Bool.not_false, List.getElem?_cons_zero, List.getElem?_cons_succ, List.getElem?_toArray, Array.toList, List.mapM_cons, List.mapM_nil, Option.pure_def, Option.bind_eq_bind, g0, g1, g6, g5, hlen, f1]) <;> exact rfl)))  | ((first | refine OpsP.guard (x := ?_) (b := ?_) ?hj ?hx ?hd ?_ | (refine DrP.guard (d := ?_) (op := ?_) (t := ?_) (p := ?_) (a := ?_) (j := ?_) (w := ?_) (x := ?_) (b := ?_) ?ho ?hj ?hx ?hd ?_; (case ho => rfl)) | refine EvP.condB (c := ?_) ?hx ?_); (try case hj => rfl); (case hx => ((try simp only [val, get_set, get_nil, ofArgs, ofValue, Nat.reduceEqDiff, reduceIte, Option.map_some, g0, g1, g6, g5, hlen, f1]) <;> exact rfl)); (try case hd => rfl)))
      refine EvP.loop (fun m tm h => tm.get 1 = .int .i64 (.ofNat 32) ∧ ∃ j bv, m = 32 - j ∧ j ≤ 32 ∧ tm.get 9 = .int .i64 (.ofNat j) ∧ tm.get 5 = bv ∧ BL h bv (bitsL cs ++ List.replicate j false)) 32 ?_ ?_
      · refine ⟨?_, 0, bv, rfl, Nat.zero_le _, ?_, ?_, by simpa using hbl⟩
        · exact (by (try simp only [val, get_set, get_nil, ofArgs, ofValue, Nat.reduceEqDiff, reduceIte, Option.map_some, g1]) <;> exact rfl)
        · exact (by (try simp only [val, get_set, get_nil, ofArgs, ofValue, Nat.reduceEqDiff, reduceIte, Option.map_some]) <;> exact rfl)
        · exact (by (try simp only [val, get_set, get_nil, ofArgs, ofValue, Nat.reduceEqDiff, reduceIte, Option.map_some, g5]) <;> exact rfl)
      · clear g0 g1 g6 g5 hbl bv
        rintro m tm h ⟨g1, j, bv, rfl, hj, g9, g5, hbl⟩
        by_cases hlj : j < 32
        · have f2 : Nat.blt j 32 = true := by rw [blt_eq]; simp [hlj]
          obtain ⟨v', h', ha, hb'⟩ := hbl.app false (by rw [List.length_append, bitsL_len, List.length_replicate]; omega)
          have chk_ : True := by simp only [g1, g9, g5, f2, bsB, putNew_eq, ha]
          clear chk_
          repeat (first | refine EvP.seq ?_ | refine EvP.region ?_ | refine OpsP.nil ?_ | refine GuardP.no ?_ | refine DGuardP.no ?_ | refine DrP.nil ?_ | refine CondP.t ?_ | refine CondP.f ?_ | refine EvP.ret ?_ | refine EvP.skip ?_ | refine EvP.exit ?_ | refine EvP.block ?_ | refine EvP.scope ?_  | ((first | refine OpsP.put (v := ?_) (h1 := ?_) ?hd ?he ?_ | refine OpsP.eff (v := ?_) (h1 := ?_) ?he ?_ | refine GuardP.yes (v := ?_) (h1 := ?_) ?he ?_  | (refine DrP.put (d := ?_) (op := ?_) (t := ?_) (p := ?_) (a := ?_) (v := ?_) (h1 := ?_) ?ho ?hd ?he ?_; (case ho => rfl)) | (refine DrP.eff (op := ?_) (t := ?_) (p := ?_) (a := ?_) (v := ?_) (h1 := ?_) ?ho ?he ?_; (case ho => rfl)) | refine DGuardP.yes (v := ?_) (h1 := ?_) ?he ?_); (try case hd => rfl); (case he => intro run; ((try simp only [evOp, evA, val, vals, oval, parts, get_set, get_nil, ofArgs, ofValue, binOpE, arith, ilt, convertE, unOpE, builtinE, lenE, callV, List.nil_append, List.append_nil, Option.bind_some, Option.map_some, Nat.reduceEqDiff, reduceIte, Bool.not_true, Bool.not_false, List.getElem?_cons_zero, List.getElem?_cons_succ, List.getElem?_toArray, Array.toList, List.mapM_cons, List.mapM_nil, Option.pure_def, Option.bind_eq_bind, g1, g9, g5, f2, bsB, putNew_eq, ha]) <;> exact rfl)))  | ((first | refine OpsP.guard (x := ?_) (b := ?_) ?hj ?hx ?hd ?_ | (refine DrP.guard (d := ?_) (op := ?_) (t := ?_) (p := ?_) (a := ?_) (j := ?_) (w := ?_) (x := ?_) (b := ?_) ?ho ?hj ?hx ?hd ?_; (case ho => rfl)) | refine EvP.condB (c := ?_) ?hx ?_); (try case hj => rfl); (case hx => ((try simp only [val, get_set, get_nil, ofArgs, ofValue, Nat.reduceEqDiff, reduceIte, Option.map_some, g1, g9, g5, f2, bsB, putNew_eq, ha]) <;> exact rfl)); (try case hd => rfl)))
          refine ⟨32 - (j + 1), by omega, ?_, j + 1, v', rfl, by omega, ?_, ?_, by rw [List.replicate_succ', ← List.append_assoc]; exact hb'⟩
          · exact (by (try simp only [val, get_set, get_nil, ofArgs, ofValue, Nat.reduceEqDiff, reduceIte, Option.map_some, g1]) <;> exact rfl)
          · simp only [get_set, Nat.reduceEqDiff, reduceIte]
            rw [show Int.ofNat j + 1 = Int.ofNat (j + 1) from rfl, wrap_nat .i64 (j + 1) (by simp only [half]; omega)]
          · exact (by (try simp only [val, get_set, get_nil, ofArgs, ofValue, Nat.reduceEqDiff, reduceIte, Option.map_some]) <;> exact rfl)
        · have f2 : Nat.blt 32 32 = false := rfl
          have : j = 32 := by omega
          subst this
          have hL : (bitsL cs ++ List.replicate 32 false).length = cs.length * 8 + 32 := by rw [List.length_append, bitsL_len, List.length_replicate]
          rcases hbl with ⟨e, _⟩ | ⟨q, b, l, hLe, rfl, hq, hqn⟩
          · rw [e] at hL; simp at hL
          · have hll : l.length = cs.length * 8 + 31 := by rw [hLe] at hL; simp at hL; omega
            rw [← hLe, hll] at hq
            have chk_ : True := by simp only [g1, g9, g5, f2]
            clear chk_
            repeat (first | refine EvP.seq ?_ | refine EvP.region ?_ | refine OpsP.nil ?_ | refine GuardP.no ?_ | refine DGuardP.no ?_ | refine DrP.nil ?_ | refine CondP.t ?_ | refine CondP.f ?_ | refine EvP.ret ?_ | refine EvP.skip ?_ | refine EvP.exit ?_ | refine EvP.block ?_ | refine EvP.scope ?_  | ((first | refine OpsP.put (v := ?_) (h1 := ?_) ?hd ?he ?_ | refine OpsP.eff (v := ?_) (h1 := ?_) ?he ?_ | refine GuardP.yes (v := ?_) (h1 := ?_) ?he ?_  | (refine DrP.put (d := ?_) (op := ?_) (t := ?_) (p := ?_) (a := ?_) (v := ?_) (h1 := ?_) ?ho ?hd ?he ?_; (case ho => rfl)) | (refine DrP.eff (op := ?_) (t := ?_) (p := ?_) (a := ?_) (v := ?_) (h1 := ?_) ?ho ?he ?_; (case ho => rfl)) | refine DGuardP.yes (v := ?_) (h1 := ?_) ?he ?_); (try case hd => rfl); (case he => intro run; ((try simp only [evOp, evA, val, vals, oval, parts, get_set, get_nil, ofArgs, ofValue, binOpE, arith, ilt, convertE, unOpE, builtinE, lenE, callV, List.nil_append, List.append_nil, Option.bind_some, Option.map_some, Nat.reduceEqDiff, reduceIte, Bool.not_true, Bool.not_false, List.getElem?_cons_zero, List.getElem?_cons_succ, List.getElem?_toArray, Array.toList, List.mapM_cons, List.mapM_nil, Option.pure_def, Option.bind_eq_bind, g1, g9, g5, f2]) <;> exact rfl)))  | ((first | refine OpsP.guard (x := ?_) (b := ?_) ?hj ?hx ?hd ?_ | (refine DrP.guard (d := ?_) (op := ?_) (t := ?_) (p := ?_) (a := ?_) (j := ?_) (w := ?_) (x := ?_) (b := ?_) ?ho ?hj ?hx ?hd ?_; (case ho => rfl)) | refine EvP.condB (c := ?_) ?hx ?_); (try case hj => rfl); (case hx => ((try simp only [val, get_set, get_nil, ofArgs, ofValue, Nat.reduceEqDiff, reduceIte, Option.map_some, g1, g9, g5, f2]) <;> exact rfl)); (try case hd => rfl)))
            rw [hll] at g5
            refine EvP.loop (fun m tm h => tm.get 5 = .slice q (cs.length * 8 + 31) 0 (cs.length * 8 + 32) none 1 ∧ ∃ j w, m = 32 - j ∧ j ≤ 32 ∧ tm.get 10 = .int .i64 (.ofNat j) ∧ (0 < j → w = 0) ∧ h.get q = some (.row (bools (turn j (bitsL cs ++ List.replicate 32 false))) (cs.length * 8 + 31) w)) 32 ?_ ?_
            · refine ⟨?_, 0, _, rfl, Nat.zero_le _, ?_, fun h => absurd h (by omega), hq⟩
              · exact (by (try simp only [val, get_set, get_nil, ofArgs, ofValue, Nat.reduceEqDiff, reduceIte, Option.map_some, g5]) <;> exact rfl)
              · exact (by (try simp only [val, get_set, get_nil, ofArgs, ofValue, Nat.reduceEqDiff, reduceIte, Option.map_some]) <;> exact rfl)
            · clear g1 g9 g5 hq hqn f2
              rintro m tm h ⟨g5, j, w, rfl, hj, g10, hw, hq⟩
              by_cases hlj : j < 32
              · have f2 : Nat.blt j 32 = true := by rw [blt_eq]; simp [hlj]
                have htl := turn_len j (bitsL cs ++ List.replicate 32 false)
                have hjl : j < (turn j (bitsL cs ++ List.replicate 32 false)).length := by omega
                have hld := ldB hq j hjl
                have hge : (turn j (bitsL cs ++ List.replicate 32 false))[j] = (bitsL cs ++ List.replicate 32 false)[j]'(by omega) := by
                  have := turn_get j (bitsL cs ++ List.replicate 32 false) j (Nat.le_refl _)
                  rw [List.getElem?_eq_getElem hjl, List.getElem?_eq_getElem (by omega)] at this
                  exact Option.some.inj this
                rw [hge] at hld
                have hst := stB (g := cs.length * 8 + 30) hq j hjl (!(bitsL cs ++ List.replicate 32 false)[j]'(by omega))
                rw [← turn_succ j _ (by omega)] at hst
                have ia := iaB q (cs.length * 8 + 31) (cs.length * 8 + 32) j none (by omega)
                generalize (bitsL cs ++ List.replicate 32 false)[j]'(by omega) = bit at *
                have chk_ : True := by simp only [g5, g10, f2, ia, hld, hst]
                clear chk_
                repeat (first | refine EvP.seq ?_ | refine EvP.region ?_ | refine OpsP.nil ?_ | refine GuardP.no ?_ | refine DGuardP.no ?_ | refine DrP.nil ?_ | refine CondP.t ?_ | refine CondP.f ?_ | refine EvP.ret ?_ | refine EvP.skip ?_ | refine EvP.exit ?_ | refine EvP.block ?_ | refine EvP.scope ?_  | ((first | refine OpsP.put (v := ?_) (h1 := ?_) ?hd ?he ?_ | refine OpsP.eff (v := ?_) (h1 := ?_) ?he ?_ | refine GuardP.yes (v := ?_) (h1 := ?_) ?he ?_  | (refine DrP.put (d := ?_) (op := ?_) (t := ?_) (p := ?_) (a := ?_) (v := ?_) (h1 := ?_) ?ho ?hd ?he ?_; (case ho => rfl)) | (refine DrP.eff (op := ?_) (t := ?_) (p := ?_) (a := ?_) (v := ?_) (h1 := ?_) ?ho ?he ?_; (case ho => rfl)) | refine DGuardP.yes (v := ?_) (h1 := ?_) ?he ?_); (try case hd => rfl); (case he => intro run; ((try simp only [evOp, evA, val, vals, oval, parts, get_set, get_nil, ofArgs, ofValue, binOpE, arith, ilt, convertE, unOpE, builtinE, lenE, callV, List.nil_append, List.append_nil, Option.bind_some, Option.map_some, Nat.reduceEqDiff, reduceIte, Bool.not_true, Bool.not_false, List.getElem?_cons_zero, List.getElem?_cons_succ, List.getElem?_toArray, Array.toList, List.mapM_cons, List.mapM_nil, Option.pure_def, Option.bind_eq_bind, g5, g10, f2, ia, hld, hst]) <;> exact rfl)))  | ((first | refine OpsP.guard (x := ?_) (b := ?_) ?hj ?hx ?hd ?_ | (refine DrP.guard (d := ?_) (op := ?_) (t := ?_) (p := ?_) (a := ?_) (j := ?_) (w := ?_) (x := ?_) (b := ?_) ?ho ?hj ?hx ?hd ?_; (case ho => rfl)) | refine EvP.condB (c := ?_) ?hx ?_); (try case hj => rfl); (case hx => ((try simp only [val, get_set, get_nil, ofArgs, ofValue, Nat.reduceEqDiff, reduceIte, Option.map_some, g5, g10, f2, ia, hld, hst]) <;> exact rfl)); (try case hd => rfl)))
                refine ⟨32 - (j + 1), by omega, ?_, j + 1, Nat.min w j, rfl, by omega, ?_, ?_, ?_⟩
                · exact (by (try simp only [val, get_set, get_nil, ofArgs, ofValue, Nat.reduceEqDiff, reduceIte, Option.map_some, g5]) <;> exact rfl)
                · simp only [get_set, Nat.reduceEqDiff, reduceIte]
                  rw [show Int.ofNat j + 1 = Int.ofNat (j + 1) from rfl, wrap_nat .i64 (j + 1) (by simp only [half]; omega)]
                · intro _
                  cases j with
                  | zero => exact Nat.min_zero _
                  | succ j => rw [hw (by omega)]; exact Nat.zero_min _
                · rw [hget_set, if_pos rfl]
              · have f2 : Nat.blt 32 32 = false := rfl
                have : j = 32 := by omega
                subst this
                have hw0 := hw (by omega)
                subst hw0
                have chk_ : True := by simp only [g5, g10, f2]
                clear chk_
                repeat (first | refine EvP.seq ?_ | refine EvP.region ?_ | refine OpsP.nil ?_ | refine GuardP.no ?_ | refine DGuardP.no ?_ | refine DrP.nil ?_ | refine CondP.t ?_ | refine CondP.f ?_ | refine EvP.ret ?_ | refine EvP.skip ?_ | refine EvP.exit ?_ | refine EvP.block ?_ | refine EvP.scope ?_  | ((first | refine OpsP.put (v := ?_) (h1 := ?_) ?hd ?he ?_ | refine OpsP.eff (v := ?_) (h1 := ?_) ?he ?_ | refine GuardP.yes (v := ?_) (h1 := ?_) ?he ?_  | (refine DrP.put (d := ?_) (op := ?_) (t := ?_) (p := ?_) (a := ?_) (v := ?_) (h1 := ?_) ?ho ?hd ?he ?_; (case ho => rfl)) | (refine DrP.eff (op := ?_) (t := ?_) (p := ?_) (a := ?_) (v := ?_) (h1 := ?_) ?ho ?he ?_; (case ho => rfl)) | refine DGuardP.yes (v := ?_) (h1 := ?_) ?he ?_); (try case hd => rfl); (case he => intro run; ((try simp only [evOp, evA, val, vals, oval, parts, get_set, get_nil, ofArgs, ofValue, binOpE, arith, ilt, convertE, unOpE, builtinE, lenE, callV, List.nil_append, List.append_nil, Option.bind_some, Option.map_some, Nat.reduceEqDiff, reduceIte, Bool.not_true, Bool.not_false, List.getElem?_cons_zero, List.getElem?_cons_succ, List.getElem?_toArray, Array.toList, List.mapM_cons, List.mapM_nil, Option.pure_def, Option.bind_eq_bind, g5, g10, f2]) <;> exact rfl)))  | ((first | refine OpsP.guard (x := ?_) (b := ?_) ?hj ?hx ?hd ?_ | (refine DrP.guard (d := ?_) (op := ?_) (t := ?_) (p := ?_) (a := ?_) (j := ?_) (w := ?_) (x := ?_) (b := ?_) ?ho ?hj ?hx ?hd ?_; (case ho => rfl)) | refine EvP.condB (c := ?_) ?hx ?_); (try case hj => rfl); (case hx => ((try simp only [val, get_set, get_nil, ofArgs, ofValue, Nat.reduceEqDiff, reduceIte, Option.map_some, g5, g10, f2]) <;> exact rfl)); (try case hd => rfl)))
                refine ⟨_, rfl, ?_⟩
                simp only [oneOf, get_set, Nat.reduceEqDiff, reduceIte, g5]
                have hb : bareV 10 (.slice q (cs.length * 8 + 31) 0 (cs.length * 8 + 32) none 1) = false := rfl
                have hall : (bools (turn 32 (bitsL cs ++ List.replicate 32 false))).all (bareV 10) = true := by
                  rw [List.all_eq_true]
                  intro z hz
                  obtain ⟨n, _, rfl⟩ := List.mem_map.1 hz
                  rfl
                have hr : rowOf h q = some (.row (bools (bitsN cs)) (cs.length * 8 + 31) 0) := by simp only [rowOf, hq, hall, bitsN]
                simp only [giftE, hb, hr, Option.map_some, bitsGift]
theorem bits_ok : PureOk Tryz.prog fo2 129 fBits := pureOk_of fun vs p hp => by
  unfold fBits at hp
  split at hp
  · rename_i v n
    obtain ⟨cs, hv, hp⟩ := bnd hp
    split at hp
    · rename_i hn
      cases hp
      subst hn
      exact bits_body v cs hv
    · cases hp
  · cases hp
def fo3 : Ov := fo2.with 129 fBits
theorem fo3_ok : OvOk Tryz.prog fo3 := Ov.with_ok prog_ok fo2_ok bits_ok
end
end Go.Ev

namespace Go.Ev
noncomputable section
open Go.Proofs
set_option linter.unusedSimpArgs false
set_option linter.unusedVariables false
set_option maxHeartbeats 4000000
def powersL : List Nat := [26, 23, 22, 16, 12, 11, 10, 8, 7, 5, 4, 2, 1, 0]
def ints64 (l : List Nat) : List LV := l.map fun x => .int .i64 (.ofNat x)
def fPow : Pure
  | [] => some (some (.row (ints64 powersL) 0 0), fun id => .slice id 0 0 14 (some 14) 1)
  | _ => none
theorem pow_ok : PureOk Tryz.prog fo3 130 fPow := pureOk_run fun vs p hp => by
  cases vs with
  | nil => cases hp; exact ⟨40, by kernel_rfl⟩
  | cons _ _ => cases hp
def fo4 : Ov := fo3.with 130 fPow
theorem fo4_ok : OvOk Tryz.prog fo4 := Ov.with_ok prog_ok fo3_ok pow_ok
def flipAt (i : Nat) (M : List Bool) (p : Nat) : List Bool := M.set (i + 32 - p) (!M.getD (i + 32 - p) false)
def divStep (M : List Bool) (i : Nat) : List Bool := match M.getD i false with
  | false => M
  | true => powersL.foldl (flipAt i) (M.set i false)
def divTo : Nat → List Bool → List Bool
  | 0, l => l
  | i + 1, l => divStep (divTo i l) i
def outL (r : List Bool) : Nat := r.foldr (fun b acc => acc * 2 + (match b with | true => 0 | false => 1)) 0
def crcRef (cs : List Nat) : Nat := outL ((divTo (cs.length * 8) (bitsN cs)).drop (cs.length * 8))
theorem flip_len (i : Nat) : ∀ (ps : List Nat) (M : List Bool), (ps.foldl (flipAt i) M).length = M.length
  | [], _ => rfl
  | p :: ps, M => by rw [List.foldl_cons, flip_len i ps]; simp [flipAt]
theorem divStep_len (M : List Bool) (i : Nat) : (divStep M i).length = M.length := by
  unfold divStep
  split
  · rfl
  · rw [flip_len]; simp
theorem divTo_len : ∀ (i : Nat) (l : List Bool), (divTo i l).length = l.length
  | 0, _ => rfl
  | i + 1, l => by rw [divTo, divStep_len, divTo_len i l]
theorem bitsN_len (cs : List Nat) : (bitsN cs).length = cs.length * 8 + 32 := by rw [bitsN, turn_len, List.length_append, bitsL_len, List.length_replicate]
theorem outL_lt : ∀ (r : List Bool), outL r < 2 ^ r.length
  | [] => by decide
  | b :: r => by
    have := outL_lt r
    unfold outL at this ⊢
    rw [List.foldr_cons, List.length_cons, Nat.pow_succ]
    cases b <;> simp only <;> omega
theorem freeze_bytes {v : LV} {cs : List Nat} (h : bytesOf v = some cs) (hp : Heap) : freezeV hp 10 v = some v := by
  rcases (bytesOf_shape h).1 with ⟨rfl, rfl⟩ | rfl
  · rfl
  · show ((u8s cs).mapM (freezeV hp 9)).map (fun us => LV.vs us cs.length) = _
    have : (u8s cs).mapM (freezeV hp 9) = some (u8s cs) := by
      clear h
      induction cs with
      | nil => rfl
      | cons c cs ih =>
        have e : u8s (c :: cs) = .int .u8 (.ofNat c) :: u8s cs := rfl
        have e2 : freezeV hp 9 (.int .u8 (.ofNat c)) = some (.int .u8 (.ofNat c)) := rfl
        rw [e, List.mapM_cons, e2, ih]; rfl
    rw [this]; rfl
theorem call4_bits (run : Run) (h : Heap) {v : LV} {cs : List Nat} (hv : bytesOf v = some cs) : callE Tryz.prog fo4 run 129 [v, .int .i64 32] h = some (putGift h (bitsGift cs)) := by
  show pureCall fBits _ h = _
  unfold pureCall
  have h2 : freezeV h 10 (.int .i64 32) = some (.int .i64 32) := rfl
  simp only [List.mapM_cons, List.mapM_nil, freeze_bytes hv h, h2, Option.pure_def, Option.bind_eq_bind, Option.bind_some]
  have : fBits [v, .int .i64 32] = some (bitsGift cs) := by
    show ((bytesOf v).bind fun cs => if 32 = 32 then some (bitsGift cs) else none) = _
    rw [hv]; rfl
  rw [this]; rfl
theorem call4_pow (run : Run) (h : Heap) : callE Tryz.prog fo4 run 130 [] h = some (.slice h.next 0 0 14 (some 14) 1, (h.new (.row (ints64 powersL) 0 0)).2) := rfl
theorem iaI (q g m i : Nat) (c : Option Nat) (hi : i < m) : indexAddrOp Tryz.prog 82 (.slice q g 0 m c 1) (.int .i64 (.ofNat i)) = some (.ptr q g i) := by
  have h1 : Nat.blt i m = true := by rw [blt_eq]; simp [hi]
  simp only [indexAddrOp, asNat?, Option.bind_some, uInts, szInt, h1, Nat.beq, Bool.and_self, Nat.mul_one, Nat.zero_add]
theorem ldP {h : Heap} {q : Nat} (hq : h.get q = some (.row (ints64 powersL) 0 0)) (i : Nat) (hi : i < powersL.length) : loadAt Tryz.prog 3 (.ptr q 0 i) h = some (.int .i64 (.ofNat powersL[i])) := by
  have hr : readN h q 0 i 1 = some [.int .i64 (.ofNat powersL[i])] := by
    rw [readN_all hq (by simp [ints64]; omega), List.drop_eq_getElem_cons (by simpa [ints64] using hi)]
    simp [ints64]
  simp only [loadAt, aggInt, hr, Option.bind_some, List.head?]
theorem pow_le : ∀ k (h : k < powersL.length), powersL[k] ≤ 26 := by decide
end
end Go.Ev

namespace Go.Ev
noncomputable section
open Go.Proofs
set_option linter.unusedSimpArgs false
set_option linter.unusedVariables false
set_option maxHeartbeats 4000000
def fOf : Pure
  | [v] => (bytesOf v).map fun cs => (none, fun _ => .int .u32 (.ofNat (crcRef cs)))
  | _ => none
def dec : Nat → Int
  | 0 => -1
  | j + 1 => .ofNat j
theorem of_body (v : LV) (cs : List Nat) (hv : bytesOf v = some cs) : ∃ r h1, Evc Tryz.prog fo4 87 [v] Heap.empty (r, h1) ∧ r = .int .u32 (.ofNat (crcRef cs)) := by
  obtain ⟨_, _, hln⟩ := bytesOf_shape hv
  have hcb := fun run h => call4_bits run h hv
  have hbl := bitsN_len cs
  have ln : ∀ (q g m : Nat) (c : Option Nat) (h : Heap), lenE Tryz.prog 207 (.slice q g 0 m c 1) h = some (.int .i64 (.ofNat m)) := fun q g m c h => by simp only [lenE, uBools, lenOf?, Option.map_some]
  have ln2 : ∀ (q : Nat) (h : Heap), lenE Tryz.prog 82 (.slice q 0 0 14 (some 14) 1) h = some (.int .i64 (.ofNat 14)) := fun q h => by simp only [lenE, uInts, lenOf?, Option.map_some]
  refine Evc.of rfl Tryz.func87 rfl rfl ?_
  have chk_ : True := by simp only [hcb, putGift, bitsGift, hnext_empty, hnext_new, call4_pow]
  clear chk_
  repeat (first | refine EvP.seq ?_ | refine EvP.region ?_ | refine OpsP.nil ?_ | refine GuardP.no ?_ | refine DGuardP.no ?_ | refine DrP.nil ?_ | refine CondP.t ?_ | refine CondP.f ?_ | refine EvP.ret ?_ | refine EvP.skip ?_ | refine EvP.exit ?_ | refine EvP.block ?_ | refine EvP.scope ?_  | ((first | refine OpsP.put (v := ?_) (h1 := ?_) ?hd ?he ?_ | refine OpsP.eff (v := ?_) (h1 := ?_) ?he ?_ | refine GuardP.yes (v := ?_) (h1 := ?_) ?he ?_  | (refine DrP.put (d := ?_) (op := ?_) (t := ?_) (p := ?_) (a := ?_) (v := ?_) (h1 := ?_) ?ho ?hd ?he ?_; (case ho => rfl)) | (refine DrP.eff (op := ?_) (t := ?_) (p := ?_) (a := ?_) (v := ?_) (h1 := ?_) ?ho ?he ?_; (case ho => rfl)) | refine DGuardP.yes (v := ?_) (h1 := ?_) ?he ?_); (try case hd => rfl); (case he => intro run; ((try simp only [evOp, evA, val, vals, oval, parts, get_set, get_nil, ofArgs, ofValue, binOpE, arith, ilt, convertE, unOpE, builtinE, lenE, callV, List.nil_append, List.append_nil, Option.bind_some, Option.map_some, Nat.reduceEqDiff, reduceIte, Bool.not_true, Bool.not_false, List.getElem?_cons_zero, List.getElem?_cons_succ, List.getElem?_toArray, Array.toList, List.mapM_cons, List.mapM_nil, Option.pure_def, Option.bind_eq_bind, hcb, putGift, bitsGift, hnext_empty, hnext_new, call4_pow]) <;> exact rfl)))  | ((first | refine OpsP.guard (x := ?_) (b := ?_) ?hj ?hx ?hd ?_ | (refine DrP.guard (d := ?_) (op := ?_) (t := ?_) (p := ?_) (a := ?_) (j := ?_) (w := ?_) (x := ?_) (b := ?_) ?ho ?hj ?hx ?hd ?_; (case ho => rfl)) | refine EvP.condB (c := ?_) ?hx ?_); (try case hj => rfl); (case hx => ((try simp only [val, get_set, get_nil, ofArgs, ofValue, Nat.reduceEqDiff, reduceIte, Option.map_some, hcb, putGift, bitsGift, hnext_empty, hnext_new, call4_pow]) <;> exact rfl)); (try case hd => rfl)))
  generalize hn8 : cs.length * 8 = n8 at *
  refine EvP.loop (fun m tm h => h.get 1 = some (.row (ints64 powersL) 0 0) ∧ tm.get 3 = .slice 0 (n8 + 31) 0 (n8 + 32) none 1 ∧ tm.get 4 = .slice 1 0 0 14 (some 14) 1 ∧
    ∃ i, m = n8 - i ∧ i ≤ n8 ∧ tm.get 5 = .int .i64 (.ofNat i) ∧ h.get 0 = some (.row (bools (divTo i (bitsN cs))) (n8 + 31) 0)) n8 ?_ ?_
  · refine ⟨?_, ?_, ?_, 0, rfl, Nat.zero_le _, ?_, ?_⟩
    · rw [hget_new, hnext_new, hnext_empty]; rfl
    · exact (by (try simp only [val, get_set, get_nil, ofArgs, ofValue, Nat.reduceEqDiff, reduceIte, Option.map_some]) <;> exact rfl)
    · exact (by (try simp only [val, get_set, get_nil, ofArgs, ofValue, Nat.reduceEqDiff, reduceIte, Option.map_some]) <;> exact rfl)
    · exact (by (try simp only [val, get_set, get_nil, ofArgs, ofValue, Nat.reduceEqDiff, reduceIte, Option.map_some]) <;> exact rfl)
    · rw [hget_new, hnext_new, hnext_empty, if_neg (by decide), hget_new, hnext_empty]; rfl
  · rintro m tm h ⟨h1, g3, g4, i, rfl, hi, g5, h0⟩
    have hdl := divTo_len i (bitsN cs)
    have w1 : wrap .i64 (Int.ofNat i + 32) = .ofNat (i + 32) := by rw [show Int.ofNat i + 32 = Int.ofNat (i + 32) from rfl, wrap_nat .i64 (i + 32) (by simp only [half]; omega)]
    by_cases hlt : i < n8
    · have f1 : Nat.blt (i + 32) (n8 + 32) = true := by rw [blt_eq, decide_eq_true_iff]; omega
      have ia := iaB 0 (n8 + 31) (n8 + 32) i none (by omega)
      have hil : i < (divTo i (bitsN cs)).length := by omega
      have ld := ldB h0 i hil
      have hgd : (divTo i (bitsN cs)).getD i false = (divTo i (bitsN cs))[i] := by rw [List.getD_eq_getElem?_getD, List.getElem?_eq_getElem hil]; rfl
      have hnext : divTo (i + 1) (bitsN cs) = divStep (divTo i (bitsN cs)) i := rfl
      unfold divStep at hnext
      rw [hgd] at hnext
      cases hb : (divTo i (bitsN cs))[i] with
      | false =>
        rw [hb] at ld hnext
        have chk_ : True := by simp only [g3, g4, g5, w1, ln, f1, ia, ld]
        clear chk_
        repeat (first | refine EvP.seq ?_ | refine EvP.region ?_ | refine OpsP.nil ?_ | refine GuardP.no ?_ | refine DGuardP.no ?_ | refine DrP.nil ?_ | refine CondP.t ?_ | refine CondP.f ?_ | refine EvP.ret ?_ | refine EvP.skip ?_ | refine EvP.exit ?_ | refine EvP.block ?_ | refine EvP.scope ?_  | ((first | refine OpsP.put (v := ?_) (h1 := ?_) ?hd ?he ?_ | refine OpsP.eff (v := ?_) (h1 := ?_) ?he ?_ | refine GuardP.yes (v := ?_) (h1 := ?_) ?he ?_  | (refine DrP.put (d := ?_) (op := ?_) (t := ?_) (p := ?_) (a := ?_) (v := ?_) (h1 := ?_) ?ho ?hd ?he ?_; (case ho => rfl)) | (refine DrP.eff (op := ?_) (t := ?_) (p := ?_) (a := ?_) (v := ?_) (h1 := ?_) ?ho ?he ?_; (case ho => rfl)) | refine DGuardP.yes (v := ?_) (h1 := ?_) ?he ?_); (try case hd => rfl); (case he => intro run; ((try simp only [evOp, evA, val, vals, oval, parts, get_set, get_nil, ofArgs, ofValue, binOpE, arith, ilt, convertE, unOpE, builtinE, callV, List.nil_append, List.append_nil, Option.bind_some, Option.map_some, Nat.reduceEqDiff, reduceIte, Bool.not_true, Bool.not_false, List.getElem?_cons_zero, List.getElem?_cons_succ, List.getElem?_toArray, Array.toList, List.mapM_cons, List.mapM_nil, Option.pure_def, Option.bind_eq_bind, g3, g4, g5, w1, ln, f1, ia, ld]) <;> exact rfl)))  | ((first | refine OpsP.guard (x := ?_) (b := ?_) ?hj ?hx ?hd ?_ | (refine DrP.guard (d := ?_) (op := ?_) (t := ?_) (p := ?_) (a := ?_) (j := ?_) (w := ?_) (x := ?_) (b := ?_) ?ho ?hj ?hx ?hd ?_; (case ho => rfl)) | refine EvP.condB (c := ?_) ?hx ?_); (try case hj => rfl); (case hx => ((try simp only [val, get_set, get_nil, ofArgs, ofValue, Nat.reduceEqDiff, reduceIte, Option.map_some, g3, g4, g5, w1, ln, f1, ia, ld]) <;> exact rfl)); (try case hd => rfl)))
        refine ⟨n8 - (i + 1), by omega, h1, ?_, ?_, i + 1, rfl, by omega, ?_, by rw [hnext]; exact h0⟩
        · exact (by (try simp only [val, get_set, get_nil, ofArgs, ofValue, Nat.reduceEqDiff, reduceIte, Option.map_some, g3]) <;> exact rfl)
        · exact (by (try simp only [val, get_set, get_nil, ofArgs, ofValue, Nat.reduceEqDiff, reduceIte, Option.map_some, g4]) <;> exact rfl)
        · simp only [get_set, Nat.reduceEqDiff, reduceIte]
          rw [show Int.ofNat i + 1 = Int.ofNat (i + 1) from rfl, wrap_nat .i64 (i + 1) (by simp only [half]; omega)]
      | true =>
        rw [hb] at ld hnext
        have st := stB (g := n8 + 30) h0 i hil false
        have chk_ : True := by simp only [g3, g4, g5, w1, ln, f1, ia, ld, st]
        clear chk_
        repeat (first | refine EvP.seq ?_ | refine EvP.region ?_ | refine OpsP.nil ?_ | refine GuardP.no ?_ | refine DGuardP.no ?_ | refine DrP.nil ?_ | refine CondP.t ?_ | refine CondP.f ?_ | refine EvP.ret ?_ | refine EvP.skip ?_ | refine EvP.exit ?_ | refine EvP.block ?_ | refine EvP.scope ?_  | ((first | refine OpsP.put (v := ?_) (h1 := ?_) ?hd ?he ?_ | refine OpsP.eff (v := ?_) (h1 := ?_) ?he ?_ | refine GuardP.yes (v := ?_) (h1 := ?_) ?he ?_  | (refine DrP.put (d := ?_) (op := ?_) (t := ?_) (p := ?_) (a := ?_) (v := ?_) (h1 := ?_) ?ho ?hd ?he ?_; (case ho => rfl)) | (refine DrP.eff (op := ?_) (t := ?_) (p := ?_) (a := ?_) (v := ?_) (h1 := ?_) ?ho ?he ?_; (case ho => rfl)) | refine DGuardP.yes (v := ?_) (h1 := ?_) ?he ?_); (try case hd => rfl); (case he => intro run; ((try simp only [evOp, evA, val, vals, oval, parts, get_set, get_nil, ofArgs, ofValue, binOpE, arith, ilt, convertE, unOpE, builtinE, callV, List.nil_append, List.append_nil, Option.bind_some, Option.map_some, Nat.reduceEqDiff, reduceIte, Bool.not_true, Bool.not_false, List.getElem?_cons_zero, List.getElem?_cons_succ, List.getElem?_toArray, Array.toList, List.mapM_cons, List.mapM_nil, Option.pure_def, Option.bind_eq_bind, g3, g4, g5, w1, ln, f1, ia, ld, st]) <;> exact rfl)))  | ((first | refine OpsP.guard (x := ?_) (b := ?_) ?hj ?hx ?hd ?_ | (refine DrP.guard (d := ?_) (op := ?_) (t := ?_) (p := ?_) (a := ?_) (j := ?_) (w := ?_) (x := ?_) (b := ?_) ?ho ?hj ?hx ?hd ?_; (case ho => rfl)) | refine EvP.condB (c := ?_) ?hx ?_); (try case hj => rfl); (case hx => ((try simp only [val, get_set, get_nil, ofArgs, ofValue, Nat.reduceEqDiff, reduceIte, Option.map_some, g3, g4, g5, w1, ln, f1, ia, ld, st]) <;> exact rfl)); (try case hd => rfl)))
        refine EvP.loop (fun m tm h => h.get 1 = some (.row (ints64 powersL) 0 0) ∧ tm.get 3 = .slice 0 (n8 + 31) 0 (n8 + 32) none 1 ∧ tm.get 4 = .slice 1 0 0 14 (some 14) 1 ∧ tm.get 5 = .int .i64 (.ofNat i) ∧
          ∃ k, m = 14 - k ∧ k ≤ 14 ∧ tm.get 6 = .int .i64 (.ofNat k) ∧ h.get 0 = some (.row (bools ((powersL.take k).foldl (flipAt i) ((divTo i (bitsN cs)).set i false))) (n8 + 31) 0)) 14 ?_ ?_
        · refine ⟨?_, ?_, ?_, ?_, 0, rfl, by omega, ?_, ?_⟩
          · rw [hget_set, if_neg (by omega)]; exact h1
          · exact (by (try simp only [val, get_set, get_nil, ofArgs, ofValue, Nat.reduceEqDiff, reduceIte, Option.map_some, g3]) <;> exact rfl)
          · exact (by (try simp only [val, get_set, get_nil, ofArgs, ofValue, Nat.reduceEqDiff, reduceIte, Option.map_some, g4]) <;> exact rfl)
          · exact (by (try simp only [val, get_set, get_nil, ofArgs, ofValue, Nat.reduceEqDiff, reduceIte, Option.map_some, g5]) <;> exact rfl)
          · exact (by (try simp only [val, get_set, get_nil, ofArgs, ofValue, Nat.reduceEqDiff, reduceIte, Option.map_some]) <;> exact rfl)
          · rw [hget_set, if_pos rfl]
            have : Nat.min 0 i = 0 := Nat.zero_min _
            rw [this]; rfl
        · clear g3 g4 g5 h0 h1 st ld
          rintro m tm h ⟨h1, g3, g4, g5, k, rfl, hk, g6, h0⟩
          have hfl := flip_len i (powersL.take k) ((divTo i (bitsN cs)).set i false)
          rw [List.length_set] at hfl
          by_cases hlk : k < 14
          · have f2 : Nat.blt k 14 = true := by rw [blt_eq]; simp [hlk]
            have hp := pow_le k hlk
            have htk : powersL.take (k + 1) = powersL.take k ++ [powersL[k]] := by rw [List.take_add_one, List.getElem?_eq_getElem (show k < powersL.length from hlk)]; rfl
            have ip := iaI 1 0 14 k (some 14) hlk
            have lp := ldP h1 k hlk
            generalize powersL[k] = p at *
            generalize hMM : (powersL.take k).foldl (flipAt i) ((divTo i (bitsN cs)).set i false) = M at *
            have hM : M.length = n8 + 32 := by omega
            have w2 : wrap .i64 (Int.ofNat (i + 32) - Int.ofNat p) = .ofNat (i + 32 - p) := by rw [show Int.ofNat (i + 32) - Int.ofNat p = Int.ofNat (i + 32 - p) from nat_sub (b := p) (by omega), wrap_nat .i64 _ (by simp only [half]; omega)]
            have ib := iaB 0 (n8 + 31) (n8 + 32) (i + 32 - p) none (by omega)
            have lb := ldB h0 (i + 32 - p) (by omega)
            have sb := stB (g := n8 + 30) h0 (i + 32 - p) (by omega) (!M[i + 32 - p])
            have hfp : flipAt i M p = M.set (i + 32 - p) (!M[i + 32 - p]'(by omega)) := by
              unfold flipAt
              rw [List.getD_eq_getElem?_getD, List.getElem?_eq_getElem (by omega)]; rfl
            rw [← hfp] at sb
            generalize M[i + 32 - p]'(by omega) = bit at *
            have chk_ : True := by simp only [g3, g4, g5, g6, ln2, f2]
            clear chk_
            repeat (first | refine EvP.seq ?_ | refine EvP.region ?_ | refine OpsP.nil ?_ | refine GuardP.no ?_ | refine DGuardP.no ?_ | refine DrP.nil ?_ | refine CondP.t ?_ | refine CondP.f ?_ | refine EvP.ret ?_ | refine EvP.skip ?_ | refine EvP.exit ?_ | refine EvP.block ?_ | refine EvP.scope ?_  | ((first | refine OpsP.put (v := ?_) (h1 := ?_) ?hd ?he ?_ | refine OpsP.eff (v := ?_) (h1 := ?_) ?he ?_ | refine GuardP.yes (v := ?_) (h1 := ?_) ?he ?_  | (refine DrP.put (d := ?_) (op := ?_) (t := ?_) (p := ?_) (a := ?_) (v := ?_) (h1 := ?_) ?ho ?hd ?he ?_; (case ho => rfl)) | (refine DrP.eff (op := ?_) (t := ?_) (p := ?_) (a := ?_) (v := ?_) (h1 := ?_) ?ho ?he ?_; (case ho => rfl)) | refine DGuardP.yes (v := ?_) (h1 := ?_) ?he ?_); (try case hd => rfl); (case he => intro run; ((try simp only [evOp, evA, val, vals, oval, parts, get_set, get_nil, ofArgs, ofValue, binOpE, arith, ilt, convertE, unOpE, builtinE, callV, List.nil_append, List.append_nil, Option.bind_some, Option.map_some, Nat.reduceEqDiff, reduceIte, Bool.not_true, Bool.not_false, List.getElem?_cons_zero, List.getElem?_cons_succ, List.getElem?_toArray, Array.toList, List.mapM_cons, List.mapM_nil, Option.pure_def, Option.bind_eq_bind, g3, g4, g5, g6, ln2, f2]) <;> exact rfl)))  | ((first | refine OpsP.guard (x := ?_) (b := ?_) ?hj ?hx ?hd ?_ | (refine DrP.guard (d := ?_) (op := ?_) (t := ?_) (p := ?_) (a := ?_) (j := ?_) (w := ?_) (x := ?_) (b := ?_) ?ho ?hj ?hx ?hd ?_; (case ho => rfl)) | refine EvP.condB (c := ?_) ?hx ?_); (try case hj => rfl); (case hx => ((try simp only [val, get_set, get_nil, ofArgs, ofValue, Nat.reduceEqDiff, reduceIte, Option.map_some, g3, g4, g5, g6, ln2, f2]) <;> exact rfl)); (try case hd => rfl)))
            refine EvP.draw (ks := [.reads, .reads, .reads, .reads, .reads, .reads, .reads, .reads, .reads, .reads, .reads, .reads, .reads, .reads, .reads, .reads, .reads, .reads, .reads, .reads, .writes]) (ms := [0, 0, 2, 0, 0, 24, 56, 126, 0, 0, 512, 0, 0, 6144, 14336, 32256, 65280, 130816, 261888, 524287, 1048575]) (ord := [0, 1, 2, 3, 4, 5, 6, 7, 8, 9, 10, 11, 12, 13, 14, 15, 16, 17, 18, 19, 20]) ⟨rfl, rfl, by kernel_rfl, by kernel_rfl⟩ ?_
            have chk_ : True := by simp only [g3, g4, g5, g6, w1, ip, lp, w2, ib, lb, sb]
            clear chk_
            repeat (first | refine EvP.seq ?_ | refine EvP.region ?_ | refine OpsP.nil ?_ | refine GuardP.no ?_ | refine DGuardP.no ?_ | refine DrP.nil ?_ | refine CondP.t ?_ | refine CondP.f ?_ | refine EvP.ret ?_ | refine EvP.skip ?_ | refine EvP.exit ?_ | refine EvP.block ?_ | refine EvP.scope ?_  | ((first | refine OpsP.put (v := ?_) (h1 := ?_) ?hd ?he ?_ | refine OpsP.eff (v := ?_) (h1 := ?_) ?he ?_ | refine GuardP.yes (v := ?_) (h1 := ?_) ?he ?_  | (refine DrP.put (d := ?_) (op := ?_) (t := ?_) (p := ?_) (a := ?_) (v := ?_) (h1 := ?_) ?ho ?hd ?he ?_; (case ho => rfl)) | (refine DrP.eff (op := ?_) (t := ?_) (p := ?_) (a := ?_) (v := ?_) (h1 := ?_) ?ho ?he ?_; (case ho => rfl)) | refine DGuardP.yes (v := ?_) (h1 := ?_) ?he ?_); (try case hd => rfl); (case he => intro run; ((try simp only [evOp, evA, val, vals, oval, parts, get_set, get_nil, ofArgs, ofValue, binOpE, arith, ilt, convertE, unOpE, builtinE, callV, List.nil_append, List.append_nil, Option.bind_some, Option.map_some, Nat.reduceEqDiff, reduceIte, Bool.not_true, Bool.not_false, List.getElem?_cons_zero, List.getElem?_cons_succ, List.getElem?_toArray, Array.toList, List.mapM_cons, List.mapM_nil, Option.pure_def, Option.bind_eq_bind, g3, g4, g5, g6, w1, ip, lp, w2, ib, lb, sb]) <;> exact rfl)))  | ((first | refine OpsP.guard (x := ?_) (b := ?_) ?hj ?hx ?hd ?_ | (refine DrP.guard (d := ?_) (op := ?_) (t := ?_) (p := ?_) (a := ?_) (j := ?_) (w := ?_) (x := ?_) (b := ?_) ?ho ?hj ?hx ?hd ?_; (case ho => rfl)) | refine EvP.condB (c := ?_) ?hx ?_); (try case hj => rfl); (case hx => ((try simp only [val, get_set, get_nil, ofArgs, ofValue, Nat.reduceEqDiff, reduceIte, Option.map_some, g3, g4, g5, g6, w1, ip, lp, w2, ib, lb, sb]) <;> exact rfl)); (try case hd => rfl)))
            refine ⟨fun run => by kernel_rfl, ?_⟩
            have chk_ : True := by simp only [g3, g4, g5, g6]
            clear chk_
            repeat (first | refine EvP.seq ?_ | refine EvP.region ?_ | refine OpsP.nil ?_ | refine GuardP.no ?_ | refine DGuardP.no ?_ | refine DrP.nil ?_ | refine CondP.t ?_ | refine CondP.f ?_ | refine EvP.ret ?_ | refine EvP.skip ?_ | refine EvP.exit ?_ | refine EvP.block ?_ | refine EvP.scope ?_  | ((first | refine OpsP.put (v := ?_) (h1 := ?_) ?hd ?he ?_ | refine OpsP.eff (v := ?_) (h1 := ?_) ?he ?_ | refine GuardP.yes (v := ?_) (h1 := ?_) ?he ?_  | (refine DrP.put (d := ?_) (op := ?_) (t := ?_) (p := ?_) (a := ?_) (v := ?_) (h1 := ?_) ?ho ?hd ?he ?_; (case ho => rfl)) | (refine DrP.eff (op := ?_) (t := ?_) (p := ?_) (a := ?_) (v := ?_) (h1 := ?_) ?ho ?he ?_; (case ho => rfl)) | refine DGuardP.yes (v := ?_) (h1 := ?_) ?he ?_); (try case hd => rfl); (case he => intro run; ((try simp only [evOp, evA, val, vals, oval, parts, get_set, get_nil, ofArgs, ofValue, binOpE, arith, ilt, convertE, unOpE, builtinE, lenE, callV, List.nil_append, List.append_nil, Option.bind_some, Option.map_some, Nat.reduceEqDiff, reduceIte, Bool.not_true, Bool.not_false, List.getElem?_cons_zero, List.getElem?_cons_succ, List.getElem?_toArray, Array.toList, List.mapM_cons, List.mapM_nil, Option.pure_def, Option.bind_eq_bind, g3, g4, g5, g6]) <;> exact rfl)))  | ((first | refine OpsP.guard (x := ?_) (b := ?_) ?hj ?hx ?hd ?_ | (refine DrP.guard (d := ?_) (op := ?_) (t := ?_) (p := ?_) (a := ?_) (j := ?_) (w := ?_) (x := ?_) (b := ?_) ?ho ?hj ?hx ?hd ?_; (case ho => rfl)) | refine EvP.condB (c := ?_) ?hx ?_); (try case hj => rfl); (case hx => ((try simp only [val, get_set, get_nil, ofArgs, ofValue, Nat.reduceEqDiff, reduceIte, Option.map_some, g3, g4, g5, g6]) <;> exact rfl)); (try case hd => rfl)))
            refine ⟨14 - (k + 1), by omega, ?_, ?_, ?_, ?_, k + 1, rfl, by omega, ?_, ?_⟩
            · rw [hget_set, if_neg (by omega)]; exact h1
            · exact (by (try simp only [val, get_set, get_nil, ofArgs, ofValue, Nat.reduceEqDiff, reduceIte, Option.map_some, g3]) <;> exact rfl)
            · exact (by (try simp only [val, get_set, get_nil, ofArgs, ofValue, Nat.reduceEqDiff, reduceIte, Option.map_some, g4]) <;> exact rfl)
            · exact (by (try simp only [val, get_set, get_nil, ofArgs, ofValue, Nat.reduceEqDiff, reduceIte, Option.map_some, g5]) <;> exact rfl)
            · simp only [get_set, Nat.reduceEqDiff, reduceIte]
              rw [show Int.ofNat k + 1 = Int.ofNat (k + 1) from rfl, wrap_nat .i64 (k + 1) (by simp only [half]; omega)]
            · rw [hget_set, if_pos rfl, htk, List.foldl_append]
              have : Nat.min 0 (i + 32 - p) = 0 := Nat.zero_min _
              rw [this, hMM]
              rfl
          · have f2 : Nat.blt 14 14 = false := rfl
            have : k = 14 := by omega
            subst this
            have chk_ : True := by simp only [g3, g4, g5, g6, ln2, f2]
            clear chk_
            repeat (first | refine EvP.seq ?_ | refine EvP.region ?_ | refine OpsP.nil ?_ | refine GuardP.no ?_ | refine DGuardP.no ?_ | refine DrP.nil ?_ | refine CondP.t ?_ | refine CondP.f ?_ | refine EvP.ret ?_ | refine EvP.skip ?_ | refine EvP.exit ?_ | refine EvP.block ?_ | refine EvP.scope ?_  | ((first | refine OpsP.put (v := ?_) (h1 := ?_) ?hd ?he ?_ | refine OpsP.eff (v := ?_) (h1 := ?_) ?he ?_ | refine GuardP.yes (v := ?_) (h1 := ?_) ?he ?_  | (refine DrP.put (d := ?_) (op := ?_) (t := ?_) (p := ?_) (a := ?_) (v := ?_) (h1 := ?_) ?ho ?hd ?he ?_; (case ho => rfl)) | (refine DrP.eff (op := ?_) (t := ?_) (p := ?_) (a := ?_) (v := ?_) (h1 := ?_) ?ho ?he ?_; (case ho => rfl)) | refine DGuardP.yes (v := ?_) (h1 := ?_) ?he ?_); (try case hd => rfl); (case he => intro run; ((try simp only [evOp, evA, val, vals, oval, parts, get_set, get_nil, ofArgs, ofValue, binOpE, arith, ilt, convertE, unOpE, builtinE, callV, List.nil_append, List.append_nil, Option.bind_some, Option.map_some, Nat.reduceEqDiff, reduceIte, Bool.not_true, Bool.not_false, List.getElem?_cons_zero, List.getElem?_cons_succ, List.getElem?_toArray, Array.toList, List.mapM_cons, List.mapM_nil, Option.pure_def, Option.bind_eq_bind, g3, g4, g5, g6, ln2, f2]) <;> exact rfl)))  | ((first | refine OpsP.guard (x := ?_) (b := ?_) ?hj ?hx ?hd ?_ | (refine DrP.guard (d := ?_) (op := ?_) (t := ?_) (p := ?_) (a := ?_) (j := ?_) (w := ?_) (x := ?_) (b := ?_) ?ho ?hj ?hx ?hd ?_; (case ho => rfl)) | refine EvP.condB (c := ?_) ?hx ?_); (try case hj => rfl); (case hx => ((try simp only [val, get_set, get_nil, ofArgs, ofValue, Nat.reduceEqDiff, reduceIte, Option.map_some, g3, g4, g5, g6, ln2, f2]) <;> exact rfl)); (try case hd => rfl)))
            refine ⟨n8 - (i + 1), by omega, h1, ?_, ?_, i + 1, rfl, by omega, ?_, by rw [hnext]; exact h0⟩
            · exact (by (try simp only [val, get_set, get_nil, ofArgs, ofValue, Nat.reduceEqDiff, reduceIte, Option.map_some, g3]) <;> exact rfl)
            · exact (by (try simp only [val, get_set, get_nil, ofArgs, ofValue, Nat.reduceEqDiff, reduceIte, Option.map_some, g4]) <;> exact rfl)
            · simp only [get_set, Nat.reduceEqDiff, reduceIte]
              rw [show Int.ofNat i + 1 = Int.ofNat (i + 1) from rfl, wrap_nat .i64 (i + 1) (by simp only [half]; omega)]
    · have : i = n8 := by omega
      subst this
      have f1 : Nat.blt (i + 32) (i + 32) = false := by rw [blt_eq]; simp
      have w2 : wrap .i64 (Int.ofNat (i + 32) - 32) = .ofNat i := by rw [show Int.ofNat (i + 32) - 32 = Int.ofNat i from (nat_sub (a := i + 32) (b := 32) (by omega)).trans (by rw [Nat.add_sub_cancel]), wrap_nat .i64 i (by simp only [half]; omega)]
      have hrow : (bools (divTo i (bitsN cs))).length = i + 32 := by simp [bools]; omega
      have hsl : sliceAtOp Tryz.prog 207 (.slice 0 (i + 31) 0 (i + 32) none 1) (some (.int .i64 (.ofNat i))) none none h = some (.slice 0 (i + 31) i 32 none 1) := by
        have hb : bounds3 (i + 32) (leastCap 0 (i + 31) 0 (i + 32) none 1 h) (some (.int .i64 (.ofNat i))) none none = some (i, i + 32, none) := by
          have hlc : leastCap 0 (i + 31) 0 (i + 32) none 1 h = i + 32 := by
            have e1 : Nat.beq (i + 31) (i + 31) = true := by rw [beq_eq]; simp
            simp only [leastCap, h0, e1, hrow, Nat.sub_zero, Nat.div_one]
            exact Nat.max_self _
          have h1 : (Nat.ble (i + 32) (i + 32) && Nat.ble i (i + 32)) = true := by
            have a : Nat.ble (i + 32) (i + 32) = true := by rw [ble_eq]; simp
            have b : Nat.ble i (i + 32) = true := by rw [ble_eq]; simp
            rw [a, b]; rfl
          rw [hlc]
          simp only [bounds3, optNat, asNat?, Option.bind_some, h1]
        have e0 : (Nat.beq 1 1 && !Nat.beq 1 0) = true := rfl
        simp only [sliceAtOp, uBools, szBool, Option.bind_some, e0, hb, Option.map_some, capOf, Nat.mul_one, Nat.zero_add, Nat.add_sub_cancel_left]
      have hR : ((divTo i (bitsN cs)).drop i).length = 32 := by simp; omega
      have hcr : crcRef cs = outL ((divTo i (bitsN cs)).drop i) := by rw [crcRef, hn8]
      have chk_ : True := by simp only [g3, g4, g5, w1, ln, f1, w2, hsl]
      clear chk_
      repeat (first | refine EvP.seq ?_ | refine EvP.region ?_ | refine OpsP.nil ?_ | refine GuardP.no ?_ | refine DGuardP.no ?_ | refine DrP.nil ?_ | refine CondP.t ?_ | refine CondP.f ?_ | refine EvP.ret ?_ | refine EvP.skip ?_ | refine EvP.exit ?_ | refine EvP.block ?_ | refine EvP.scope ?_  | ((first | refine OpsP.put (v := ?_) (h1 := ?_) ?hd ?he ?_ | refine OpsP.eff (v := ?_) (h1 := ?_) ?he ?_ | refine GuardP.yes (v := ?_) (h1 := ?_) ?he ?_  | (refine DrP.put (d := ?_) (op := ?_) (t := ?_) (p := ?_) (a := ?_) (v := ?_) (h1 := ?_) ?ho ?hd ?he ?_; (case ho => rfl)) | (refine DrP.eff (op := ?_) (t := ?_) (p := ?_) (a := ?_) (v := ?_) (h1 := ?_) ?ho ?he ?_; (case ho => rfl)) | refine DGuardP.yes (v := ?_) (h1 := ?_) ?he ?_); (try case hd => rfl); (case he => intro run; ((try simp only [evOp, evA, val, vals, oval, parts, get_set, get_nil, ofArgs, ofValue, binOpE, arith, ilt, convertE, unOpE, builtinE, callV, List.nil_append, List.append_nil, Option.bind_some, Option.map_some, Nat.reduceEqDiff, reduceIte, Bool.not_true, Bool.not_false, List.getElem?_cons_zero, List.getElem?_cons_succ, List.getElem?_toArray, Array.toList, List.mapM_cons, List.mapM_nil, Option.pure_def, Option.bind_eq_bind, g3, g4, g5, w1, ln, f1, w2, hsl]) <;> exact rfl)))  | ((first | refine OpsP.guard (x := ?_) (b := ?_) ?hj ?hx ?hd ?_ | (refine DrP.guard (d := ?_) (op := ?_) (t := ?_) (p := ?_) (a := ?_) (j := ?_) (w := ?_) (x := ?_) (b := ?_) ?ho ?hj ?hx ?hd ?_; (case ho => rfl)) | refine EvP.condB (c := ?_) ?hx ?_); (try case hj => rfl); (case hx => ((try simp only [val, get_set, get_nil, ofArgs, ofValue, Nat.reduceEqDiff, reduceIte, Option.map_some, g3, g4, g5, w1, ln, f1, w2, hsl]) <;> exact rfl)); (try case hd => rfl)))
      rw [hcr]
      refine EvP.loop (fun m tm h' => h'.get 0 = some (.row (bools (divTo i (bitsN cs))) (i + 31) 0) ∧ tm.get 7 = .slice 0 (i + 31) i 32 none 1 ∧
        ∃ j, m = j ∧ j ≤ 32 ∧ tm.get 9 = .int .i64 (dec j) ∧ tm.get 8 = .int .u32 (.ofNat (outL (((divTo i (bitsN cs)).drop i).drop j)))) 32 ?_ ?_
      · refine ⟨h0, ?_, 32, rfl, Nat.le_refl _, ?_, ?_⟩
        · exact (by (try simp only [val, get_set, get_nil, ofArgs, ofValue, Nat.reduceEqDiff, reduceIte, Option.map_some]) <;> exact rfl)
        · exact (by (try simp only [val, get_set, get_nil, ofArgs, ofValue, Nat.reduceEqDiff, reduceIte, Option.map_some]) <;> exact rfl)
        · rw [List.drop_eq_nil_of_le (by omega)]; exact (by (try simp only [val, get_set, get_nil, ofArgs, ofValue, Nat.reduceEqDiff, reduceIte, Option.map_some]) <;> exact rfl)
      · clear g3 g4 g5 h0 h1 hsl
        rintro m tm h ⟨h0, g7, j, rfl, hj, g9, g8⟩
        cases m with
        | zero =>
          have q1 : ilt (dec 0) 0 = true := rfl
          have chk_ : True := by simp only [g7, g8, g9, q1]
          clear chk_
          repeat (first | refine EvP.seq ?_ | refine EvP.region ?_ | refine OpsP.nil ?_ | refine GuardP.no ?_ | refine DGuardP.no ?_ | refine DrP.nil ?_ | refine CondP.t ?_ | refine CondP.f ?_ | refine EvP.ret ?_ | refine EvP.skip ?_ | refine EvP.exit ?_ | refine EvP.block ?_ | refine EvP.scope ?_  | ((first | refine OpsP.put (v := ?_) (h1 := ?_) ?hd ?he ?_ | refine OpsP.eff (v := ?_) (h1 := ?_) ?he ?_ | refine GuardP.yes (v := ?_) (h1 := ?_) ?he ?_  | (refine DrP.put (d := ?_) (op := ?_) (t := ?_) (p := ?_) (a := ?_) (v := ?_) (h1 := ?_) ?ho ?hd ?he ?_; (case ho => rfl)) | (refine DrP.eff (op := ?_) (t := ?_) (p := ?_) (a := ?_) (v := ?_) (h1 := ?_) ?ho ?he ?_; (case ho => rfl)) | refine DGuardP.yes (v := ?_) (h1 := ?_) ?he ?_); (try case hd => rfl); (case he => intro run; ((try simp only [evOp, evA, val, vals, oval, parts, get_set, get_nil, ofArgs, ofValue, binOpE, arith, convertE, unOpE, builtinE, lenE, callV, List.nil_append, List.append_nil, Option.bind_some, Option.map_some, Nat.reduceEqDiff, reduceIte, Bool.not_true, Bool.not_false, List.getElem?_cons_zero, List.getElem?_cons_succ, List.getElem?_toArray, Array.toList, List.mapM_cons, List.mapM_nil, Option.pure_def, Option.bind_eq_bind, g7, g8, g9, q1]) <;> exact rfl)))  | ((first | refine OpsP.guard (x := ?_) (b := ?_) ?hj ?hx ?hd ?_ | (refine DrP.guard (d := ?_) (op := ?_) (t := ?_) (p := ?_) (a := ?_) (j := ?_) (w := ?_) (x := ?_) (b := ?_) ?ho ?hj ?hx ?hd ?_; (case ho => rfl)) | refine EvP.condB (c := ?_) ?hx ?_); (try case hj => rfl); (case hx => ((try simp only [val, get_set, get_nil, ofArgs, ofValue, Nat.reduceEqDiff, reduceIte, Option.map_some, g7, g8, g9, q1]) <;> exact rfl)); (try case hd => rfl)))
          refine ⟨_, rfl, ?_⟩
          simp only [oneOf, get_set, Nat.reduceEqDiff, reduceIte]
          rw [List.drop_zero]
        | succ j =>
          have q1 : ilt (dec (j + 1)) 0 = false := rfl
          have hjr : j < ((divTo i (bitsN cs)).drop i).length := by omega
          have hdr : ((divTo i (bitsN cs)).drop i).drop j = ((divTo i (bitsN cs)).drop i)[j] :: ((divTo i (bitsN cs)).drop i).drop (j + 1) := List.drop_eq_getElem_cons hjr
          have hol := outL_lt (((divTo i (bitsN cs)).drop i).drop (j + 1))
          have hol2 : outL (((divTo i (bitsN cs)).drop i).drop (j + 1)) * 2 + 1 < 4294967296 := by
            have e : (((divTo i (bitsN cs)).drop i).drop (j + 1)).length ≤ 31 := by rw [List.length_drop, hR]; omega
            have := Nat.pow_le_pow_right (show 0 < 2 by decide) e
            omega
          have hgi : ((divTo i (bitsN cs)).drop i)[j] = (divTo i (bitsN cs))[i + j]'(by omega) := List.getElem_drop ..
          have hou : outL (((divTo i (bitsN cs)).drop i).drop j) = outL (((divTo i (bitsN cs)).drop i).drop (j + 1)) * 2 + (match ((divTo i (bitsN cs)).drop i)[j] with | true => 0 | false => 1) := by
            rw [hdr]; rfl
          have ld := ldB h0 (i + j) (by omega)
          rw [← hgi] at ld
          have ia : indexAddrOp Tryz.prog 207 (.slice 0 (i + 31) i 32 none 1) (.int .i64 (.ofNat j)) = some (.ptr 0 (i + 31) (i + j)) := by
            have h1 : Nat.blt j 32 = true := by rw [blt_eq]; simp; omega
            simp only [indexAddrOp, asNat?, Option.bind_some, uBools, szBool, h1, Nat.beq, Bool.and_self, Nat.mul_one]
          generalize outL (((divTo i (bitsN cs)).drop i).drop (j + 1)) = acc at *
          generalize ((divTo i (bitsN cs)).drop i)[j] = bit at *
          have w3 : wrap .u32 (Int.ofNat acc * 2) = .ofNat (acc * 2) := by rw [show Int.ofNat acc * 2 = Int.ofNat (acc * 2) from rfl, wrap_u .u32 rfl _ (by simp only [pow2]; omega)]
          have w4 : wrap .u32 (Int.ofNat (acc * 2) + 1) = .ofNat (acc * 2 + 1) := by rw [show Int.ofNat (acc * 2) + 1 = Int.ofNat (acc * 2 + 1) from rfl, wrap_u .u32 rfl _ (by simp only [pow2]; omega)]
          have dj : dec (j + 1) = .ofNat j := rfl
          have w5 : wrap .i64 (Int.ofNat j - 1) = dec j := by
            cases j with
            | zero => rfl
            | succ j => rw [show Int.ofNat (j + 1) - 1 = Int.ofNat j from nat_sub (b := 1) (by omega), wrap_nat .i64 j (by simp only [half]; omega)]; rfl
          cases bit with
          | true =>
            have chk_ : True := by simp only [g7, g8, g9, q1, w3, dj, ia, ld, w5]
            clear chk_
            repeat (first | refine EvP.seq ?_ | refine EvP.region ?_ | refine OpsP.nil ?_ | refine GuardP.no ?_ | refine DGuardP.no ?_ | refine DrP.nil ?_ | refine CondP.t ?_ | refine CondP.f ?_ | refine EvP.ret ?_ | refine EvP.skip ?_ | refine EvP.exit ?_ | refine EvP.block ?_ | refine EvP.scope ?_  | ((first | refine OpsP.put (v := ?_) (h1 := ?_) ?hd ?he ?_ | refine OpsP.eff (v := ?_) (h1 := ?_) ?he ?_ | refine GuardP.yes (v := ?_) (h1 := ?_) ?he ?_  | (refine DrP.put (d := ?_) (op := ?_) (t := ?_) (p := ?_) (a := ?_) (v := ?_) (h1 := ?_) ?ho ?hd ?he ?_; (case ho => rfl)) | (refine DrP.eff (op := ?_) (t := ?_) (p := ?_) (a := ?_) (v := ?_) (h1 := ?_) ?ho ?he ?_; (case ho => rfl)) | refine DGuardP.yes (v := ?_) (h1 := ?_) ?he ?_); (try case hd => rfl); (case he => intro run; ((try simp only [evOp, evA, val, vals, oval, parts, get_set, get_nil, ofArgs, ofValue, binOpE, arith, convertE, unOpE, builtinE, lenE, callV, List.nil_append, List.append_nil, Option.bind_some, Option.map_some, Nat.reduceEqDiff, reduceIte, Bool.not_true, Bool.not_false, List.getElem?_cons_zero, List.getElem?_cons_succ, List.getElem?_toArray, Array.toList, List.mapM_cons, List.mapM_nil, Option.pure_def, Option.bind_eq_bind, g7, g8, g9, q1, w3, dj, ia, ld, w5]) <;> exact rfl)))  | ((first | refine OpsP.guard (x := ?_) (b := ?_) ?hj ?hx ?hd ?_ | (refine DrP.guard (d := ?_) (op := ?_) (t := ?_) (p := ?_) (a := ?_) (j := ?_) (w := ?_) (x := ?_) (b := ?_) ?ho ?hj ?hx ?hd ?_; (case ho => rfl)) | refine EvP.condB (c := ?_) ?hx ?_); (try case hj => rfl); (case hx => ((try simp only [val, get_set, get_nil, ofArgs, ofValue, Nat.reduceEqDiff, reduceIte, Option.map_some, g7, g8, g9, q1, w3, dj, ia, ld, w5]) <;> exact rfl)); (try case hd => rfl)))
            refine ⟨j, by omega, h0, ?_, j, rfl, by omega, ?_, ?_⟩
            · exact (by (try simp only [val, get_set, get_nil, ofArgs, ofValue, Nat.reduceEqDiff, reduceIte, Option.map_some, g7]) <;> exact rfl)
            · exact (by (try simp only [val, get_set, get_nil, ofArgs, ofValue, Nat.reduceEqDiff, reduceIte, Option.map_some]) <;> exact rfl)
            · rw [hou]; exact (by (try simp only [val, get_set, get_nil, ofArgs, ofValue, Nat.reduceEqDiff, reduceIte, Option.map_some]) <;> exact rfl)
          | false =>
            have chk_ : True := by simp only [g7, g8, g9, q1, w3, dj, ia, ld, w4, w5]
            clear chk_
            repeat (first | refine EvP.seq ?_ | refine EvP.region ?_ | refine OpsP.nil ?_ | refine GuardP.no ?_ | refine DGuardP.no ?_ | refine DrP.nil ?_ | refine CondP.t ?_ | refine CondP.f ?_ | refine EvP.ret ?_ | refine EvP.skip ?_ | refine EvP.exit ?_ | refine EvP.block ?_ | refine EvP.scope ?_  | ((first | refine OpsP.put (v := ?_) (h1 := ?_) ?hd ?he ?_ | refine OpsP.eff (v := ?_) (h1 := ?_) ?he ?_ | refine GuardP.yes (v := ?_) (h1 := ?_) ?he ?_  | (refine DrP.put (d := ?_) (op := ?_) (t := ?_) (p := ?_) (a := ?_) (v := ?_) (h1 := ?_) ?ho ?hd ?he ?_; (case ho => rfl)) | (refine DrP.eff (op := ?_) (t := ?_) (p := ?_) (a := ?_) (v := ?_) (h1 := ?_) ?ho ?he ?_; (case ho => rfl)) | refine DGuardP.yes (v := ?_) (h1 := ?_) ?he ?_); (try case hd => rfl); (case he => intro run; ((try simp only [evOp, evA, val, vals, oval, parts, get_set, get_nil, ofArgs, ofValue, binOpE, arith, convertE, unOpE, builtinE, lenE, callV, List.nil_append, List.append_nil, Option.bind_some, Option.map_some, Nat.reduceEqDiff, reduceIte, Bool.not_true, Bool.not_false, List.getElem?_cons_zero, List.getElem?_cons_succ, List.getElem?_toArray, Array.toList, List.mapM_cons, List.mapM_nil, Option.pure_def, Option.bind_eq_bind, g7, g8, g9, q1, w3, dj, ia, ld, w4, w5]) <;> exact rfl)))  | ((first | refine OpsP.guard (x := ?_) (b := ?_) ?hj ?hx ?hd ?_ | (refine DrP.guard (d := ?_) (op := ?_) (t := ?_) (p := ?_) (a := ?_) (j := ?_) (w := ?_) (x := ?_) (b := ?_) ?ho ?hj ?hx ?hd ?_; (case ho => rfl)) | refine EvP.condB (c := ?_) ?hx ?_); (try case hj => rfl); (case hx => ((try simp only [val, get_set, get_nil, ofArgs, ofValue, Nat.reduceEqDiff, reduceIte, Option.map_some, g7, g8, g9, q1, w3, dj, ia, ld, w4, w5]) <;> exact rfl)); (try case hd => rfl)))
            refine ⟨j, by omega, h0, ?_, j, rfl, by omega, ?_, ?_⟩
            · exact (by (try simp only [val, get_set, get_nil, ofArgs, ofValue, Nat.reduceEqDiff, reduceIte, Option.map_some, g7]) <;> exact rfl)
            · exact (by (try simp only [val, get_set, get_nil, ofArgs, ofValue, Nat.reduceEqDiff, reduceIte, Option.map_some]) <;> exact rfl)
            · rw [hou]; exact (by (try simp only [val, get_set, get_nil, ofArgs, ofValue, Nat.reduceEqDiff, reduceIte, Option.map_some]) <;> exact rfl)
theorem of_ok : PureOk Tryz.prog fo4 87 fOf := pureOk_of fun vs p hp => by
  unfold fOf at hp
  split at hp
  · rename_i v
    obtain ⟨cs, hv, e⟩ := mp hp
    subst e
    obtain ⟨r, h1, k1, rfl⟩ := of_body v cs hv
    exact ⟨_, h1, k1, rfl⟩
  · cases hp
def fo5 : Ov := fo4.with 87 fOf
theorem fo5_ok : OvOk Tryz.prog fo5 := Ov.with_ok prog_ok fo4_ok of_ok
end
end Go.Ev

namespace Go.Ev
noncomputable section
open Go.Proofs
set_option linter.unusedSimpArgs false
set_option linter.unusedVariables false
/-! ## The document's crc, quickly -/
def flipQ (r : List Bool) (p : Nat) : List Bool := r.set (31 - p) (!r.getD (31 - p) false)
theorem flips_drop (i : Nat) : ∀ (ps : List Nat), (∀ p ∈ ps, p ≤ 31) → ∀ M : List Bool, (ps.foldl (flipAt i) M).drop (i + 1) = ps.foldl flipQ (M.drop (i + 1))
  | [], _, _ => rfl
  | p :: ps, h, M => by
    rw [List.foldl_cons, List.foldl_cons, flips_drop i ps (fun q hq => h q (by simp [hq]))]
    congr 1
    have hp := h p (by simp)
    unfold flipAt flipQ
    rw [List.drop_set, if_neg (by omega)]
    have e : i + 32 - p - (i + 1) = 31 - p := by omega
    rw [e]
    congr 2
    rw [List.getD_eq_getElem?_getD, List.getD_eq_getElem?_getD, List.getElem?_drop]
    congr 2
    omega
def goD : Nat → List Bool → List Bool
  | 0, l => l
  | k + 1, l => goD k (match l with | [] => [] | true :: r => powersL.foldl flipQ r | false :: r => r)
theorem goD_step (M : List Bool) (i : Nat) (h : i < M.length) : (divStep M i).drop (i + 1) = (match M.drop i with | [] => [] | true :: r => powersL.foldl flipQ r | false :: r => r) := by
  rw [List.drop_eq_getElem_cons h]
  unfold divStep
  have : M.getD i false = M[i] := by rw [List.getD_eq_getElem?_getD, List.getElem?_eq_getElem h]; rfl
  rw [this]
  cases M[i] with
  | false => rfl
  | true =>
    simp only
    rw [flips_drop i powersL (by decide), List.drop_set, if_pos (by omega)]
theorem goD_eq (l : List Bool) : ∀ (k i : Nat), i + k ≤ l.length → (divTo (i + k) l).drop (i + k) = goD k ((divTo i l).drop i)
  | 0, i, _ => rfl
  | k + 1, i, h => by
    have := goD_eq l k (i + 1) (by omega)
    rw [show i + (k + 1) = i + 1 + k by omega, this]
    have e : goD (k + 1) ((divTo i l).drop i) = goD k ((divStep (divTo i l) i).drop (i + 1)) := by
      rw [goD_step _ _ (by rw [divTo_len]; omega)]
      rfl
    rw [e]
    rfl
def flagsL : List Bool := [false, false, false, false, false, true, false, false, true, true, false, false, false, false, false, true, false, false, false, true, true, true, false, true, true, false, true, true, false, true, true, true]
def flipW (fs : List Bool) : List Bool → List Bool := List.rec (motive := fun _ => List Bool → List Bool) (fun r => r) (fun f _ ih r => List.rec (motive := fun _ => List Bool) [] (fun b t _ => Bool.rec (motive := fun _ => Bool) b (notF b) f :: ih t) r) fs
theorem cons_of_len {n : Nat} {r : List Bool} (h : n + 1 ≤ r.length) : ∃ b t, r = b :: t ∧ n ≤ t.length := by
  cases r with
  | nil => simp at h
  | cons b t => exact ⟨b, t, rfl, by simpa using h⟩
theorem flipW_eq (r : List Bool) (h : 31 + 1 ≤ r.length) : flipW flagsL r = powersL.foldl flipQ r := by
  obtain ⟨b0, t0, rfl, h0⟩ := cons_of_len (n := 31) h
  obtain ⟨b1, t1, rfl, h1⟩ := cons_of_len (n := 30) h0
  obtain ⟨b2, t2, rfl, h2⟩ := cons_of_len (n := 29) h1
  obtain ⟨b3, t3, rfl, h3⟩ := cons_of_len (n := 28) h2
  obtain ⟨b4, t4, rfl, h4⟩ := cons_of_len (n := 27) h3
  obtain ⟨b5, t5, rfl, h5⟩ := cons_of_len (n := 26) h4
  obtain ⟨b6, t6, rfl, h6⟩ := cons_of_len (n := 25) h5
  obtain ⟨b7, t7, rfl, h7⟩ := cons_of_len (n := 24) h6
  obtain ⟨b8, t8, rfl, h8⟩ := cons_of_len (n := 23) h7
  obtain ⟨b9, t9, rfl, h9⟩ := cons_of_len (n := 22) h8
  obtain ⟨b10, t10, rfl, h10⟩ := cons_of_len (n := 21) h9
  obtain ⟨b11, t11, rfl, h11⟩ := cons_of_len (n := 20) h10
  obtain ⟨b12, t12, rfl, h12⟩ := cons_of_len (n := 19) h11
  obtain ⟨b13, t13, rfl, h13⟩ := cons_of_len (n := 18) h12
  obtain ⟨b14, t14, rfl, h14⟩ := cons_of_len (n := 17) h13
  obtain ⟨b15, t15, rfl, h15⟩ := cons_of_len (n := 16) h14
  obtain ⟨b16, t16, rfl, h16⟩ := cons_of_len (n := 15) h15
  obtain ⟨b17, t17, rfl, h17⟩ := cons_of_len (n := 14) h16
  obtain ⟨b18, t18, rfl, h18⟩ := cons_of_len (n := 13) h17
  obtain ⟨b19, t19, rfl, h19⟩ := cons_of_len (n := 12) h18
  obtain ⟨b20, t20, rfl, h20⟩ := cons_of_len (n := 11) h19
  obtain ⟨b21, t21, rfl, h21⟩ := cons_of_len (n := 10) h20
  obtain ⟨b22, t22, rfl, h22⟩ := cons_of_len (n := 9) h21
  obtain ⟨b23, t23, rfl, h23⟩ := cons_of_len (n := 8) h22
  obtain ⟨b24, t24, rfl, h24⟩ := cons_of_len (n := 7) h23
  obtain ⟨b25, t25, rfl, h25⟩ := cons_of_len (n := 6) h24
  obtain ⟨b26, t26, rfl, h26⟩ := cons_of_len (n := 5) h25
  obtain ⟨b27, t27, rfl, h27⟩ := cons_of_len (n := 4) h26
  obtain ⟨b28, t28, rfl, h28⟩ := cons_of_len (n := 3) h27
  obtain ⟨b29, t29, rfl, h29⟩ := cons_of_len (n := 2) h28
  obtain ⟨b30, t30, rfl, h30⟩ := cons_of_len (n := 1) h29
  obtain ⟨b31, t31, rfl, h31⟩ := cons_of_len (n := 0) h30
  simp only [powersL, List.foldl_cons, List.foldl_nil, flipQ, List.set_cons_succ, List.set_cons_zero, List.getD_cons_succ, List.getD_cons_zero, Nat.reduceSub]
  show b0 :: b1 :: b2 :: b3 :: b4 :: notF b5 :: b6 :: b7 :: notF b8 :: notF b9 :: b10 :: b11 :: b12 :: b13 :: b14 :: notF b15 :: b16 :: b17 :: b18 :: notF b19 :: notF b20 :: notF b21 :: b22 :: notF b23 :: notF b24 :: b25 :: notF b26 :: notF b27 :: b28 :: notF b29 :: notF b30 :: notF b31 :: t31 = _
  simp only [notF_eq]
def goF (k : Nat) : List Bool → List Bool := Nat.rec (motive := fun _ => List Bool → List Bool) (fun l => l)
  (fun _ ih l => List.rec (motive := fun _ => List Bool) (ih []) (fun b r _ => ih (Bool.rec (motive := fun _ => List Bool) r (flipW flagsL r) b)) l) k
theorem flips_len : ∀ (ps : List Nat) (r : List Bool), (ps.foldl flipQ r).length = r.length
  | [], _ => rfl
  | p :: ps, r => by rw [List.foldl_cons, flips_len ps]; simp [flipQ]
theorem goF_eq : ∀ (k : Nat) (l : List Bool), k + 32 ≤ l.length → goF k l = goD k l
  | 0, l, _ => rfl
  | k + 1, [], h => by simp at h
  | k + 1, b :: r, h => by
    rw [List.length_cons] at h
    show goF k (Bool.rec (motive := fun _ => List Bool) r (flipW flagsL r) b) = goD k _
    cases b with
    | false => exact goF_eq k r (by omega)
    | true =>
      show goF k (flipW flagsL r) = goD k (powersL.foldl flipQ r)
      rw [flipW_eq r (by omega)]
      exact goF_eq k _ (by rw [flips_len]; omega)
/-! the bits -/
def bbF (k : Nat) : Nat → List Bool := Nat.rec (motive := fun _ => Nat → List Bool) (fun _ => []) (fun _ ih x => Nat.beq (Nat.mod x 2) 1 :: ih (Nat.div x 2)) k
theorem bbF_eq : ∀ k x, bbF k x = byteBits k x
  | 0, _ => rfl
  | k + 1, x => by
    show Nat.beq (x % 2) 1 :: bbF k (x / 2) = decide (x % 2 = 1) :: byteBits k (x / 2)
    rw [bbF_eq k, beq_eq]
def zeros32 : List Bool := List.replicate 32 false
def bitsX (cs : List Nat) : List Bool := List.rec (motive := fun _ => List Bool) zeros32 (fun x _ ih => appR (bbF 8 x) ih) cs
theorem bitsX_eq : ∀ cs, bitsX cs = bitsL cs ++ List.replicate 32 false
  | [] => rfl
  | x :: cs => by
    show appR (bbF 8 x) (bitsX cs) = _
    rw [appR_eq, bbF_eq, bitsX_eq cs]
    simp [bitsL]
def turnF (k : Nat) : List Bool → List Bool := Nat.rec (motive := fun _ => List Bool → List Bool) (fun l => l) (fun _ ih l => List.rec (motive := fun _ => List Bool) [] (fun b t _ => notF b :: ih t) l) k
theorem turnF_eq : ∀ k l, turnF k l = turn k l
  | 0, _ => rfl
  | _ + 1, [] => rfl
  | k + 1, b :: l => by
    show notF b :: turnF k l = (!b) :: turn k l
    rw [turnF_eq k, notF_eq]
def crcFast (cs : List Nat) : Nat := outL (goF (Nat.mul (lenR cs) 8) (turnF 32 (bitsX cs)))
theorem crcFast_eq (cs : List Nat) : crcFast cs = crcRef cs := by
  unfold crcFast crcRef
  rw [turnF_eq, bitsX_eq, lenR_eq]
  show outL (goF (cs.length * 8) (bitsN cs)) = _
  rw [goF_eq _ _ (by rw [bitsN_len]; omega)]
  have := goD_eq (bitsN cs) (cs.length * 8) 0 (by rw [bitsN_len]; omega)
  simp only [Nat.zero_add] at this
  rw [this]
  rfl
/-! for the quick evaluator: bytes -/
def byteOkF (v : LV) : Bool := match v with | .int .u8 (.ofNat x) => Nat.blt x 256 | _ => false
def allBF (cs : List LV) : Bool := List.rec (motive := fun _ => Bool) true (fun a _ ih => Bool.rec (motive := fun _ => Bool) false ih (byteOkF a)) cs
theorem allBF_ok : ∀ cs, allBF cs = true → cs.mapM nat8 = some (mapNF cs)
  | [], _ => rfl
  | a :: cs, h => by
    have h' : Bool.rec (motive := fun _ => Bool) false (allBF cs) (byteOkF a) = true := h
    have h1 : byteOkF a = true := by cases hb : byteOkF a with | true => rfl | false => rw [hb] at h'; cases h'
    rw [h1] at h'
    have ih := allBF_ok cs h'
    rw [List.mapM_cons, ih]
    unfold byteOkF at h1
    split at h1
    · rename_i x
      have : x < 256 := by simpa [blt_eq] using h1
      simp only [nat8, if_pos this, Option.pure_def, Option.bind_eq_bind, Option.bind_some]
      rfl
    · cases h1
def bytesQ (v : LV) : Option (List Nat) := match v with
  | .nils => some []
  | .vs cells n => ifF (andF (Nat.beq (lenT cells) n) (andF (Nat.blt n 1048576) (allBF cells))) (some (mapNF cells)) none
  | _ => none
theorem bytesQ_ok {v : LV} {cs : List Nat} (h : bytesQ v = some cs) : bytesOf v = some cs := by
  unfold bytesQ at h
  split at h
  · exact h
  · rename_i cells n
    obtain ⟨h1, h2⟩ := ifF_some h
    cases h2
    rw [andF_eq, andF_eq, Bool.and_eq_true, Bool.and_eq_true, lenT_eq] at h1
    have e1 : cells.length = n := Nat.eq_of_beq_eq_true h1.1
    have e2 : n < 1048576 := by simpa [blt_eq] using h1.2.1
    unfold bytesOf
    simp only [if_pos (And.intro e1 e2)]
    exact allBF_ok cells h1.2.2
  · cases h
/-- A function of bytes that gives a number. -/
def qOf : List LV → FH → OR := fun args h => optF (headR args) (fun a => ifF (Nat.beq (lenR args) 1) (optF (freezeF h 10 a) (fun v => optF (bytesQ v) (fun cs => natF (crcFast cs) (fun n => .ok (.int .u32 (.ofNat n)) h)) .no) .no) .no) .no
theorem qOf_ok : ∀ args fh h r fh', HR fh h → qOf args fh = .ok r fh' → ∃ h', pureCall fOf args h = some (r, h') ∧ HR fh' h' := by
  intro args fh h r fh' hr he
  obtain ⟨a, h1, he⟩ := optF_ok he
  obtain ⟨h2, he⟩ := ifF_ok he
  have := one_list h1 h2
  subst this
  obtain ⟨v, h3, he⟩ := optF_ok he
  obtain ⟨cs, h4, he⟩ := optF_ok he
  rw [natF_eq, crcFast_eq] at he
  cases he
  refine ⟨h, ?_, hr⟩
  unfold pureCall
  simp only [List.mapM_cons, List.mapM_nil, freezeF_ok hr 10 a v h3, Option.pure_def, Option.bind_eq_bind, Option.bind_some, fOf, bytesQ_ok h4, Option.map_some]
  rfl
/-- crc.Add. -/
def nibF (s : Nat) : Nat := natF (Nat.xor (Nat.div s 16) (Option.rec (motive := fun _ => Nat) 0 (fun x => x) (headR (dropR (Nat.mod s 16) crcTab)))) (fun n => n)
theorem nibF_eq (s : Nat) : nibF s = nib s := by
  unfold nibF nib
  rw [natF_eq, headR_eq, dropR_eq, List.head?_drop, List.getD_eq_getElem?_getD]
  show (s / 16) ^^^ _ = _
  congr 1
  show (Option.rec (motive := fun _ => Nat) 0 (fun x => x) crcTab[s % 16]? : Nat) = _
  cases crcTab[s % 16]? <;> rfl
def crcAddF (cs : List Nat) : Nat → Nat := List.rec (motive := fun _ => Nat → Nat) (fun s => s) (fun x _ ih s => natF (nibF (nibF (Nat.xor s x))) ih) cs
theorem crcAddF_eq : ∀ (cs : List Nat) (s : Nat), crcAddF cs s = crcAdd s cs
  | [], _ => rfl
  | x :: cs, s => by
    show natF (nibF (nibF (s ^^^ x))) (crcAddF cs) = _
    rw [natF_eq, crcAddF_eq cs, nibF_eq, nibF_eq]
    rfl
end
end Go.Ev
