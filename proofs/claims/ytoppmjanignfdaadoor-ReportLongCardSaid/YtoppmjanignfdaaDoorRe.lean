/- A part of the proof of ReportBack (the second form: what is handed in is of bulk at most 1048576): no statement of the seat's stands here. -/
import Derived.Laws.RangeString
import Derived.Laws.RangeAny
import Derived.Test.YtoppmjanignfdaaDoorRd
set_option linter.unusedSectionVars false
set_option linter.unusedSimpArgs false
set_option linter.unusedVariables false
set_option linter.all false
set_option linter.unusedVariables false
set_option linter.unusedSimpArgs false
set_option linter.unusedSectionVars false
set_option maxRecDepth 100000
set_option maxHeartbeats 4000000
namespace Go.Ev
open Go Go.Proofs
def digitV (r : Int) : Int := if 48 ≤ r ∧ r ≤ 57 then r - 48 else if 97 ≤ r ∧ r ≤ 102 then r - 87 else -1
theorem wrapI32 {n : Int} (h0 : -2147483648 ≤ n) (h1 : n < 2147483648) : IntKind.i32.wrap n = n := by
  simp [IntKind.wrap, IntKind.bits, IntKind.signed]; omega
theorem digit_ev (m : Nat) (r : Int) (h0 : 0 ≤ r) (h1 : r < 2147483648) : evCall X2b (m + 20) 73 [.int .i32 r] [] = some (.int .i64 (digitV r), []) := by
  have w1 := wrapI32 (n := r - 48) (by omega) (by omega)
  have w2 := wrapI64 (n := r - 48) (by omega) (by omega)
  have w3 := wrapI32 (n := r - 97) (by omega) (by omega)
  have w4 := wrapI64 (n := r - 97) (by omega) (by omega)
  have w5 := wrapI64 (n := r - 97 + 10) (by omega) (by omega)
  refine call_fin (nt := 24) (res := #[.tmp 2]) rfl Tryd.func73 (by rw [Tryd.f73]) rfl rfl ?_
  unfold digitV
  by_cases a : 48 ≤ r
  · by_cases b : r ≤ 57
    · simp -implicitDefEqProofs [run_seq, run_then, run_then_ret, run_then_exit, run_region, run_regionK, run_cond, run_cond_true, run_cond_false, run_block, run_block_exit, run_block_ret, run_block_normal, evCode_exit, evCode_ret, evCode_skip, evRegion_seq, run_seqs, run_seqK, evSeq_zero, run_step, run_stepO, run_stepK_true, run_stepK_false, run_stepR, wantedV, evOp, evOpR, opd, putTm, putAll, ofValue, ofScalar, binV, intOp, unV, und_p, size_p, bytesOf_p, zeroV_p, aggT_p, size3, size5, size9, size22, size24, size25, size27, size28, size29, size31, size40, size42, size47, agg3, agg5, agg9, agg22, agg24, agg25, agg27, agg28, agg29, agg31, agg40, agg42, agg47, bytesOf3, bytesOf5, bytesOf9, bytesOf42, bytesOf47, zeroV3, zeroV5, zeroV9, zeroV24, zeroV27, zeroV31, zeroV42, zeroV47, Tryd.underlying3, Tryd.underlying5, Tryd.underlying9, Tryd.underlying22, Tryd.underlying24, Tryd.underlying27, Tryd.underlying28, Tryd.underlying29, Tryd.underlying31, Tryd.underlying40, Tryd.underlying42, Tryd.underlying47, Tryd.underlying51, Tryd.underlying61, Tryd.underlying78, wrapI64, builtinV, convV, len9, len_nil, len_slz, len_sl, len_msl, slT, minV, asI, asN, ce_int, ce_str, ce_bool, ce_agg, ce_msl, ce_sl, ce_nilsl, sc_int, sc_str, sc_bool, sc_msl, sc_sl, sc_nilsl, sc_slz, fillV, splice, Heap.put, Heap.get, appendV, srcCells, cellsOf, rowOf, zerosT, isIntT, isStr, maxBytes, indexAddrV, fieldAddrV, fieldOf, sliceV, storeAt, cellsAt, takeV, partV, nextV, strOp, cfst, csnd, mapHd_some, hdS_mk, canonK_some, reach_nil, reach_cons, reachGo, clearTm, refsL, V.refs, Blk.refs, renL, V.ren, Blk.ren, indexOf, subHeap, resultsR, leaveR_some, lastK_ret, lastK_exit, fin_ret, fin_normal, leave_int, leave_bool, leave_str, Tryd.f73, a, b, w1, w2]
    · by_cases c : 97 ≤ r
      · by_cases d : r ≤ 102
        · simp -implicitDefEqProofs [run_seq, run_then, run_then_ret, run_then_exit, run_region, run_regionK, run_cond, run_cond_true, run_cond_false, run_block, run_block_exit, run_block_ret, run_block_normal, evCode_exit, evCode_ret, evCode_skip, evRegion_seq, run_seqs, run_seqK, evSeq_zero, run_step, run_stepO, run_stepK_true, run_stepK_false, run_stepR, wantedV, evOp, evOpR, opd, putTm, putAll, ofValue, ofScalar, binV, intOp, unV, und_p, size_p, bytesOf_p, zeroV_p, aggT_p, size3, size5, size9, size22, size24, size25, size27, size28, size29, size31, size40, size42, size47, agg3, agg5, agg9, agg22, agg24, agg25, agg27, agg28, agg29, agg31, agg40, agg42, agg47, bytesOf3, bytesOf5, bytesOf9, bytesOf42, bytesOf47, zeroV3, zeroV5, zeroV9, zeroV24, zeroV27, zeroV31, zeroV42, zeroV47, Tryd.underlying3, Tryd.underlying5, Tryd.underlying9, Tryd.underlying22, Tryd.underlying24, Tryd.underlying27, Tryd.underlying28, Tryd.underlying29, Tryd.underlying31, Tryd.underlying40, Tryd.underlying42, Tryd.underlying47, Tryd.underlying51, Tryd.underlying61, Tryd.underlying78, wrapI64, builtinV, convV, len9, len_nil, len_slz, len_sl, len_msl, slT, minV, asI, asN, ce_int, ce_str, ce_bool, ce_agg, ce_msl, ce_sl, ce_nilsl, sc_int, sc_str, sc_bool, sc_msl, sc_sl, sc_nilsl, sc_slz, fillV, splice, Heap.put, Heap.get, appendV, srcCells, cellsOf, rowOf, zerosT, isIntT, isStr, maxBytes, indexAddrV, fieldAddrV, fieldOf, sliceV, storeAt, cellsAt, takeV, partV, nextV, strOp, cfst, csnd, mapHd_some, hdS_mk, canonK_some, reach_nil, reach_cons, reachGo, clearTm, refsL, V.refs, Blk.refs, renL, V.ren, Blk.ren, indexOf, subHeap, resultsR, leaveR_some, lastK_ret, lastK_exit, fin_ret, fin_normal, leave_int, leave_bool, leave_str, Tryd.f73, a, b, c, d, w3, w4, w5]
          omega
        · simp -implicitDefEqProofs [run_seq, run_then, run_then_ret, run_then_exit, run_region, run_regionK, run_cond, run_cond_true, run_cond_false, run_block, run_block_exit, run_block_ret, run_block_normal, evCode_exit, evCode_ret, evCode_skip, evRegion_seq, run_seqs, run_seqK, evSeq_zero, run_step, run_stepO, run_stepK_true, run_stepK_false, run_stepR, wantedV, evOp, evOpR, opd, putTm, putAll, ofValue, ofScalar, binV, intOp, unV, und_p, size_p, bytesOf_p, zeroV_p, aggT_p, size3, size5, size9, size22, size24, size25, size27, size28, size29, size31, size40, size42, size47, agg3, agg5, agg9, agg22, agg24, agg25, agg27, agg28, agg29, agg31, agg40, agg42, agg47, bytesOf3, bytesOf5, bytesOf9, bytesOf42, bytesOf47, zeroV3, zeroV5, zeroV9, zeroV24, zeroV27, zeroV31, zeroV42, zeroV47, Tryd.underlying3, Tryd.underlying5, Tryd.underlying9, Tryd.underlying22, Tryd.underlying24, Tryd.underlying27, Tryd.underlying28, Tryd.underlying29, Tryd.underlying31, Tryd.underlying40, Tryd.underlying42, Tryd.underlying47, Tryd.underlying51, Tryd.underlying61, Tryd.underlying78, wrapI64, builtinV, convV, len9, len_nil, len_slz, len_sl, len_msl, slT, minV, asI, asN, ce_int, ce_str, ce_bool, ce_agg, ce_msl, ce_sl, ce_nilsl, sc_int, sc_str, sc_bool, sc_msl, sc_sl, sc_nilsl, sc_slz, fillV, splice, Heap.put, Heap.get, appendV, srcCells, cellsOf, rowOf, zerosT, isIntT, isStr, maxBytes, indexAddrV, fieldAddrV, fieldOf, sliceV, storeAt, cellsAt, takeV, partV, nextV, strOp, cfst, csnd, mapHd_some, hdS_mk, canonK_some, reach_nil, reach_cons, reachGo, clearTm, refsL, V.refs, Blk.refs, renL, V.ren, Blk.ren, indexOf, subHeap, resultsR, leaveR_some, lastK_ret, lastK_exit, fin_ret, fin_normal, leave_int, leave_bool, leave_str, Tryd.f73, a, b, c, d]
      · simp -implicitDefEqProofs [run_seq, run_then, run_then_ret, run_then_exit, run_region, run_regionK, run_cond, run_cond_true, run_cond_false, run_block, run_block_exit, run_block_ret, run_block_normal, evCode_exit, evCode_ret, evCode_skip, evRegion_seq, run_seqs, run_seqK, evSeq_zero, run_step, run_stepO, run_stepK_true, run_stepK_false, run_stepR, wantedV, evOp, evOpR, opd, putTm, putAll, ofValue, ofScalar, binV, intOp, unV, und_p, size_p, bytesOf_p, zeroV_p, aggT_p, size3, size5, size9, size22, size24, size25, size27, size28, size29, size31, size40, size42, size47, agg3, agg5, agg9, agg22, agg24, agg25, agg27, agg28, agg29, agg31, agg40, agg42, agg47, bytesOf3, bytesOf5, bytesOf9, bytesOf42, bytesOf47, zeroV3, zeroV5, zeroV9, zeroV24, zeroV27, zeroV31, zeroV42, zeroV47, Tryd.underlying3, Tryd.underlying5, Tryd.underlying9, Tryd.underlying22, Tryd.underlying24, Tryd.underlying27, Tryd.underlying28, Tryd.underlying29, Tryd.underlying31, Tryd.underlying40, Tryd.underlying42, Tryd.underlying47, Tryd.underlying51, Tryd.underlying61, Tryd.underlying78, wrapI64, builtinV, convV, len9, len_nil, len_slz, len_sl, len_msl, slT, minV, asI, asN, ce_int, ce_str, ce_bool, ce_agg, ce_msl, ce_sl, ce_nilsl, sc_int, sc_str, sc_bool, sc_msl, sc_sl, sc_nilsl, sc_slz, fillV, splice, Heap.put, Heap.get, appendV, srcCells, cellsOf, rowOf, zerosT, isIntT, isStr, maxBytes, indexAddrV, fieldAddrV, fieldOf, sliceV, storeAt, cellsAt, takeV, partV, nextV, strOp, cfst, csnd, mapHd_some, hdS_mk, canonK_some, reach_nil, reach_cons, reachGo, clearTm, refsL, V.refs, Blk.refs, renL, V.ren, Blk.ren, indexOf, subHeap, resultsR, leaveR_some, lastK_ret, lastK_exit, fin_ret, fin_normal, leave_int, leave_bool, leave_str, Tryd.f73, a, b, c]
  · have c : ¬ 97 ≤ r := by omega
    simp -implicitDefEqProofs [run_seq, run_then, run_then_ret, run_then_exit, run_region, run_regionK, run_cond, run_cond_true, run_cond_false, run_block, run_block_exit, run_block_ret, run_block_normal, evCode_exit, evCode_ret, evCode_skip, evRegion_seq, run_seqs, run_seqK, evSeq_zero, run_step, run_stepO, run_stepK_true, run_stepK_false, run_stepR, wantedV, evOp, evOpR, opd, putTm, putAll, ofValue, ofScalar, binV, intOp, unV, und_p, size_p, bytesOf_p, zeroV_p, aggT_p, size3, size5, size9, size22, size24, size25, size27, size28, size29, size31, size40, size42, size47, agg3, agg5, agg9, agg22, agg24, agg25, agg27, agg28, agg29, agg31, agg40, agg42, agg47, bytesOf3, bytesOf5, bytesOf9, bytesOf42, bytesOf47, zeroV3, zeroV5, zeroV9, zeroV24, zeroV27, zeroV31, zeroV42, zeroV47, Tryd.underlying3, Tryd.underlying5, Tryd.underlying9, Tryd.underlying22, Tryd.underlying24, Tryd.underlying27, Tryd.underlying28, Tryd.underlying29, Tryd.underlying31, Tryd.underlying40, Tryd.underlying42, Tryd.underlying47, Tryd.underlying51, Tryd.underlying61, Tryd.underlying78, wrapI64, builtinV, convV, len9, len_nil, len_slz, len_sl, len_msl, slT, minV, asI, asN, ce_int, ce_str, ce_bool, ce_agg, ce_msl, ce_sl, ce_nilsl, sc_int, sc_str, sc_bool, sc_msl, sc_sl, sc_nilsl, sc_slz, fillV, splice, Heap.put, Heap.get, appendV, srcCells, cellsOf, rowOf, zerosT, isIntT, isStr, maxBytes, indexAddrV, fieldAddrV, fieldOf, sliceV, storeAt, cellsAt, takeV, partV, nextV, strOp, cfst, csnd, mapHd_some, hdS_mk, canonK_some, reach_nil, reach_cons, reachGo, clearTm, refsL, V.refs, Blk.refs, renL, V.ren, Blk.ren, indexOf, subHeap, resultsR, leaveR_some, lastK_ret, lastK_exit, fin_ret, fin_normal, leave_int, leave_bool, leave_str, Tryd.f73, a, c]
def F73 (args : List V) (H : Heap) : Option (V × Heap) := match args, H with
  | [.int .i32 r], [] => if 0 ≤ r ∧ r < 2147483648 then some (.int .i64 (digitV r), []) else none
  | _, _ => none
noncomputable def X3 : Ctx := X2b.hook 73 F73
instance : Prg X3 := inferInstanceAs (Prg (X2b.hook 73 F73))
theorem X3_good : Good X3 := X2b_good.hook fun args H r H' h => by
  unfold F73 at h
  split at h
  · split at h
    · rename_i n hn
      cases h
      exact ⟨20, digit_ev 0 n hn.1 hn.2⟩
    · cases h
  · cases h
theorem call73 {rec : FuncId → Nat → Code → St → Option (Ex × St)} {fresh : Nat → Nat} {H : Heap} {n : Int} (h0 : 0 ≤ n) (h1 : n < 2147483648) :
    callV X3 (callWith X3 rec) 73 [.int .i32 n] fresh H = some { v := .int .i64 (digitV n) } :=
  callV_pure rfl (by simp [mslsL, V.msls]) (by simp [refsL, V.refs]) (by rw [call_hook (F := F73) rfl]; simp [F73, h0, h1]) (by simp [V.refs])

/- get -/
noncomputable def getB : Code := Tryd.f71.body.getD .skip
noncomputable def getLoop : Code := cfst (cfst (csnd (cfst (csnd (csnd getB)))))
noncomputable def getRest : Code := csnd (csnd (csnd getB))
theorem get_shape : Tryd.f71.body = some (.seq (cfst getB) (.seq (cfst (csnd getB)) (.seq (.seq (cfst (cfst (csnd (csnd getB)))) (.block 0 (.loop getLoop))) getRest))) := by kernel_rfl
theorem leave_two {X : Ctx} {f : FuncId} (k n b) (H : Heap) : leave X f 0 (.tuple [.int k n, .bool b]) H = (.tuple [.int k n, .bool b], []) :=
  leave_pure (by simp [V.msls, mslsL]) (by simp [V.refs, refsL]) H
theorem decodeLow (s : List UInt8) (i : Nat) (h : i < s.length) (ha : s[i].toNat < 128) : Utf8.decode ⟨s.toArray⟩ i = (s[i].toNat, 1) := by
  exact decode_ascii ⟨s.toArray⟩ i (by show i < s.toArray.size; simpa using h) ha
theorem decodeHigh (s : List UInt8) (i : Nat) (h : i < s.length) (ha : 128 ≤ s[i].toNat) : 128 ≤ (Utf8.decode ⟨s.toArray⟩ i).1 ∧ (Utf8.decode ⟨s.toArray⟩ i).1 ≤ 2147483647 :=
  ⟨(decode_high ⟨s.toArray⟩ i (by show i < s.toArray.size; simpa using h) ha).1, decode_le _ _⟩
theorem digitV_high {r : Int} (h : 128 ≤ r) : digitV r = -1 := by
  unfold digitV
  rw [if_neg (by omega), if_neg (by omega)]
theorem digitV_le (r : Int) : digitV r ≤ 15 := by unfold digitV; split; omega; split <;> omega
theorem digitV_ge (r : Int) : -1 ≤ digitV r := by unfold digitV; split; omega; split <;> omega
def getBad (base : Int) (len i : Nat) (n d : Int) : Prop := d < 0 ∨ base ≤ d ∨ (i = 0 ∧ d = 0 ∧ 1 < len) ∨ (18446744073709551615 - d).tdiv base < n
instance (base len i n d) : Decidable (getBad base len i n d) := by unfold getBad; infer_instance
def getGo (base : Int) (len : Nat) : List UInt8 → Nat → Int → Option Int
  | [], _, n => some n
  | c :: r, i, n => if getBad base len i n (digitV c.toNat) then none else getGo base len r (i + 1) (n * base + digitV c.toNat)
def getRes (s : List UInt8) : Option Int → V
  | some v => .tuple [.int .u64 v, .bool (!sameBytes s [])]
  | none => .tuple [.int .u64 0, .bool false]
def getSt (s : List UInt8) (base : Int) (a : Nat × Int) : St :=
  ⟨[.str s, .int .u64 base, .dead, .dead, .dead, .dead, .int .u64 a.2, .dead, .dead, .dead, .str s, .iter 0] ++ List.replicate 45 .dead, [some (.iter s a.1)]⟩
theorem get_clears : clears (X3.keepSlots 71) getLoop = [53, 52, 51, 50, 49, 48, 5, 4, 47, 46, 45, 44, 43, 42, 41, 40, 39, 38, 37, 36, 35, 34, 33, 32, 31, 30, 29, 28, 27, 26, 25, 24, 23, 22, 21, 20, 19, 18, 9, 17, 16, 8, 7, 15, 14, 13, 12] := by kernel_rfl
noncomputable def getK (q : Nat) (o : Option (Ex × St)) : Option (V × Heap) := fin X3 #[.tmp 4, .tmp 5] 71 0 (thenK X3 (q + 20) 71 0 getRest (blockK 0 o))
theorem get_end (q m : Nat) (s : List UInt8) (base n : Int) : lastK (getK q) (evCode X3 (m + 30) 71 0 getLoop (getSt s base (s.length, n))) = some (getRes s (some n), []) := by
  simp -implicitDefEqProofs [run_seq, run_then, run_then_ret, run_then_exit, run_region, run_regionK, run_cond, run_cond_true, run_cond_false, run_block, run_block_exit, run_block_ret, run_block_normal, evCode_exit, evCode_ret, evCode_skip, evRegion_seq, run_seqs, run_seqK, evSeq_zero, run_step, run_stepO, run_stepK_true, run_stepK_false, run_stepR, wantedV, evOp, evOpR, opd, putTm, putAll, ofValue, ofScalar, binV, intOp, unV, und_p, size_p, bytesOf_p, zeroV_p, aggT_p, size3, size5, size9, size22, size24, size25, size27, size28, size29, size31, size40, size42, size47, agg3, agg5, agg9, agg22, agg24, agg25, agg27, agg28, agg29, agg31, agg40, agg42, agg47, bytesOf3, bytesOf5, bytesOf9, bytesOf42, bytesOf47, zeroV3, zeroV5, zeroV9, zeroV24, zeroV27, zeroV31, zeroV42, zeroV47, Tryd.underlying3, Tryd.underlying5, Tryd.underlying9, Tryd.underlying22, Tryd.underlying24, Tryd.underlying27, Tryd.underlying28, Tryd.underlying29, Tryd.underlying31, Tryd.underlying40, Tryd.underlying42, Tryd.underlying47, Tryd.underlying51, Tryd.underlying61, Tryd.underlying78, wrapI64, builtinV, convV, len9, len_nil, len_slz, len_sl, len_msl, slT, minV, asI, asN, ce_int, ce_str, ce_bool, ce_agg, ce_msl, ce_sl, ce_nilsl, sc_int, sc_str, sc_bool, sc_msl, sc_sl, sc_nilsl, sc_slz, fillV, splice, Heap.put, Heap.get, appendV, srcCells, cellsOf, rowOf, zerosT, isIntT, isStr, maxBytes, indexAddrV, fieldAddrV, fieldOf, sliceV, storeAt, cellsAt, takeV, partV, nextV, strOp, cfst, csnd, mapHd_some, hdS_mk, canonK_some, reach_nil, reach_cons, reachGo, clearTm, refsL, V.refs, Blk.refs, renL, V.ren, Blk.ren, indexOf, subHeap, resultsR, leaveR_some, lastK_ret, lastK_exit, fin_ret, fin_normal, leave_int, leave_bool, leave_str, getK, getLoop, getRest, getB, Tryd.f71, getSt, getRes, leave_two]
section
variable (q m : Nat) (s : List UInt8) (base n : Int) (i : Nat) (rn w : Nat) (hi : i < s.length) (hd : Utf8.decode ⟨s.toArray⟩ i = (rn, w)) (hr : rn < 2147483648) (hb : base = 10 ∨ base = 16)
include hi hd hr hb
theorem get_badA (hA : digitV rn < 0) : lastK (getK q) (evCode X3 (m + 30) 71 0 getLoop (getSt s base (i, n))) = some (getRes s none, []) := by
  have hr' : (rn : Int) < 2147483648 := by omega
  simp -implicitDefEqProofs [run_seq, run_then, run_then_ret, run_then_exit, run_region, run_regionK, run_cond, run_cond_true, run_cond_false, run_block, run_block_exit, run_block_ret, run_block_normal, evCode_exit, evCode_ret, evCode_skip, evRegion_seq, run_seqs, run_seqK, evSeq_zero, run_step, run_stepO, run_stepK_true, run_stepK_false, run_stepR, wantedV, evOp, evOpR, opd, putTm, putAll, ofValue, ofScalar, binV, intOp, unV, und_p, size_p, bytesOf_p, zeroV_p, aggT_p, size3, size5, size9, size22, size24, size25, size27, size28, size29, size31, size40, size42, size47, agg3, agg5, agg9, agg22, agg24, agg25, agg27, agg28, agg29, agg31, agg40, agg42, agg47, bytesOf3, bytesOf5, bytesOf9, bytesOf42, bytesOf47, zeroV3, zeroV5, zeroV9, zeroV24, zeroV27, zeroV31, zeroV42, zeroV47, Tryd.underlying3, Tryd.underlying5, Tryd.underlying9, Tryd.underlying22, Tryd.underlying24, Tryd.underlying27, Tryd.underlying28, Tryd.underlying29, Tryd.underlying31, Tryd.underlying40, Tryd.underlying42, Tryd.underlying47, Tryd.underlying51, Tryd.underlying61, Tryd.underlying78, wrapI64, builtinV, convV, len9, len_nil, len_slz, len_sl, len_msl, slT, minV, asI, asN, ce_int, ce_str, ce_bool, ce_agg, ce_msl, ce_sl, ce_nilsl, sc_int, sc_str, sc_bool, sc_msl, sc_sl, sc_nilsl, sc_slz, fillV, splice, Heap.put, Heap.get, appendV, srcCells, cellsOf, rowOf, zerosT, isIntT, isStr, maxBytes, indexAddrV, fieldAddrV, fieldOf, sliceV, storeAt, cellsAt, takeV, partV, nextV, strOp, cfst, csnd, mapHd_some, hdS_mk, canonK_some, reach_nil, reach_cons, reachGo, clearTm, refsL, V.refs, Blk.refs, renL, V.ren, Blk.ren, indexOf, subHeap, resultsR, leaveR_some, lastK_ret, lastK_exit, fin_ret, fin_normal, leave_int, leave_bool, leave_str, getK, getLoop, getRest, getB, Tryd.f71, getSt, getRes, leave_two, call73, hi, hd, hr', hA]
theorem get_badB (hA : 0 ≤ digitV rn) (hB : base ≤ digitV rn) : lastK (getK q) (evCode X3 (m + 30) 71 0 getLoop (getSt s base (i, n))) = some (getRes s none, []) := by
  have hr' : (rn : Int) < 2147483648 := by omega
  have hA' : ¬ digitV rn < 0 := by omega
  have hw : digitV rn % 18446744073709551616 = digitV rn := by have := digitV_le rn; omega
  simp -implicitDefEqProofs [run_seq, run_then, run_then_ret, run_then_exit, run_region, run_regionK, run_cond, run_cond_true, run_cond_false, run_block, run_block_exit, run_block_ret, run_block_normal, evCode_exit, evCode_ret, evCode_skip, evRegion_seq, run_seqs, run_seqK, evSeq_zero, run_step, run_stepO, run_stepK_true, run_stepK_false, run_stepR, wantedV, evOp, evOpR, opd, putTm, putAll, ofValue, ofScalar, binV, intOp, unV, und_p, size_p, bytesOf_p, zeroV_p, aggT_p, size3, size5, size9, size22, size24, size25, size27, size28, size29, size31, size40, size42, size47, agg3, agg5, agg9, agg22, agg24, agg25, agg27, agg28, agg29, agg31, agg40, agg42, agg47, bytesOf3, bytesOf5, bytesOf9, bytesOf42, bytesOf47, zeroV3, zeroV5, zeroV9, zeroV24, zeroV27, zeroV31, zeroV42, zeroV47, Tryd.underlying3, Tryd.underlying5, Tryd.underlying9, Tryd.underlying22, Tryd.underlying24, Tryd.underlying27, Tryd.underlying28, Tryd.underlying29, Tryd.underlying31, Tryd.underlying40, Tryd.underlying42, Tryd.underlying47, Tryd.underlying51, Tryd.underlying61, Tryd.underlying78, wrapI64, builtinV, convV, len9, len_nil, len_slz, len_sl, len_msl, slT, minV, asI, asN, ce_int, ce_str, ce_bool, ce_agg, ce_msl, ce_sl, ce_nilsl, sc_int, sc_str, sc_bool, sc_msl, sc_sl, sc_nilsl, sc_slz, fillV, splice, Heap.put, Heap.get, appendV, srcCells, cellsOf, rowOf, zerosT, isIntT, isStr, maxBytes, indexAddrV, fieldAddrV, fieldOf, sliceV, storeAt, cellsAt, takeV, partV, nextV, strOp, cfst, csnd, mapHd_some, hdS_mk, canonK_some, reach_nil, reach_cons, reachGo, clearTm, refsL, V.refs, Blk.refs, renL, V.ren, Blk.ren, indexOf, subHeap, resultsR, leaveR_some, lastK_ret, lastK_exit, fin_ret, fin_normal, leave_int, leave_bool, leave_str, getK, getLoop, getRest, getB, Tryd.f71, getSt, getRes, leave_two, call73, hi, hd, hr', hA', hB, wrapU64, hw]
theorem get_badC (hA : 0 ≤ digitV rn) (hB : digitV rn < base) (h0 : i = 0) (hC : digitV rn = 0) (hl : 1 < s.length) : lastK (getK q) (evCode X3 (m + 30) 71 0 getLoop (getSt s base (i, n))) = some (getRes s none, []) := by
  have hr' : (rn : Int) < 2147483648 := by omega
  have hB' : 0 < base := by omega
  have hl' : (1 : Int) < s.length := by omega
  have hB2 : ¬ base ≤ 0 := by omega
  subst h0
  simp -implicitDefEqProofs [run_seq, run_then, run_then_ret, run_then_exit, run_region, run_regionK, run_cond, run_cond_true, run_cond_false, run_block, run_block_exit, run_block_ret, run_block_normal, evCode_exit, evCode_ret, evCode_skip, evRegion_seq, run_seqs, run_seqK, evSeq_zero, run_step, run_stepO, run_stepK_true, run_stepK_false, run_stepR, wantedV, evOp, evOpR, opd, putTm, putAll, ofValue, ofScalar, binV, intOp, unV, und_p, size_p, bytesOf_p, zeroV_p, aggT_p, size3, size5, size9, size22, size24, size25, size27, size28, size29, size31, size40, size42, size47, agg3, agg5, agg9, agg22, agg24, agg25, agg27, agg28, agg29, agg31, agg40, agg42, agg47, bytesOf3, bytesOf5, bytesOf9, bytesOf42, bytesOf47, zeroV3, zeroV5, zeroV9, zeroV24, zeroV27, zeroV31, zeroV42, zeroV47, Tryd.underlying3, Tryd.underlying5, Tryd.underlying9, Tryd.underlying22, Tryd.underlying24, Tryd.underlying27, Tryd.underlying28, Tryd.underlying29, Tryd.underlying31, Tryd.underlying40, Tryd.underlying42, Tryd.underlying47, Tryd.underlying51, Tryd.underlying61, Tryd.underlying78, wrapI64, builtinV, convV, len9, len_nil, len_slz, len_sl, len_msl, slT, minV, asI, asN, ce_int, ce_str, ce_bool, ce_agg, ce_msl, ce_sl, ce_nilsl, sc_int, sc_str, sc_bool, sc_msl, sc_sl, sc_nilsl, sc_slz, fillV, splice, Heap.put, Heap.get, appendV, srcCells, cellsOf, rowOf, zerosT, isIntT, isStr, maxBytes, indexAddrV, fieldAddrV, fieldOf, sliceV, storeAt, cellsAt, takeV, partV, nextV, strOp, cfst, csnd, mapHd_some, hdS_mk, canonK_some, reach_nil, reach_cons, reachGo, clearTm, refsL, V.refs, Blk.refs, renL, V.ren, Blk.ren, indexOf, subHeap, resultsR, leaveR_some, lastK_ret, lastK_exit, fin_ret, fin_normal, leave_int, leave_bool, leave_str, getK, getLoop, getRest, getB, Tryd.f71, getSt, getRes, leave_two, call73, hi, hd, hr', hC, hB', hB2, hl, hl', wrapU64]
theorem get_badD (hn : 0 ≤ n) (hA : 0 ≤ digitV rn) (hB : digitV rn < base) (hC : ¬ (i = 0 ∧ digitV rn = 0 ∧ 1 < s.length)) (hD : (18446744073709551615 - digitV rn).tdiv base < n) : lastK (getK q) (evCode X3 (m + 30) 71 0 getLoop (getSt s base (i, n))) = some (getRes s none, []) := by
  have hr' : (rn : Int) < 2147483648 := by omega
  have hA' : ¬ digitV rn < 0 := by omega
  have hB' : ¬ base ≤ digitV rn := by omega
  have hw : digitV rn % 18446744073709551616 = digitV rn := by have := digitV_le rn; omega
  have hw2 : (18446744073709551615 - digitV rn) % 18446744073709551616 = 18446744073709551615 - digitV rn := by have := digitV_le rn; omega
  have hne : base ≠ 0 := by omega
  have hw3 : (18446744073709551615 - digitV rn).tdiv base % 18446744073709551616 = (18446744073709551615 - digitV rn).tdiv base := by
    rw [Int.tdiv_eq_ediv_of_nonneg (by have := digitV_le rn; omega)]
    have := digitV_le rn
    rcases hb with rfl | rfl <;> omega
  by_cases h0 : i = 0
  · by_cases h1 : digitV rn = 0
    · have hl : ¬ 1 < s.length := fun h => hC ⟨h0, h1, h⟩
      have hl' : ¬ (1 : Int) < s.length := by omega
      have hB2 : ¬ base ≤ 0 := by omega
      rw [h1] at hD hw2 hw3
      simp at hD hw2 hw3
      subst h0
      simp -implicitDefEqProofs [run_seq, run_then, run_then_ret, run_then_exit, run_region, run_regionK, run_cond, run_cond_true, run_cond_false, run_block, run_block_exit, run_block_ret, run_block_normal, evCode_exit, evCode_ret, evCode_skip, evRegion_seq, run_seqs, run_seqK, evSeq_zero, run_step, run_stepO, run_stepK_true, run_stepK_false, run_stepR, wantedV, evOp, evOpR, opd, putTm, putAll, ofValue, ofScalar, binV, intOp, unV, und_p, size_p, bytesOf_p, zeroV_p, aggT_p, size3, size5, size9, size22, size24, size25, size27, size28, size29, size31, size40, size42, size47, agg3, agg5, agg9, agg22, agg24, agg25, agg27, agg28, agg29, agg31, agg40, agg42, agg47, bytesOf3, bytesOf5, bytesOf9, bytesOf42, bytesOf47, zeroV3, zeroV5, zeroV9, zeroV24, zeroV27, zeroV31, zeroV42, zeroV47, Tryd.underlying3, Tryd.underlying5, Tryd.underlying9, Tryd.underlying22, Tryd.underlying24, Tryd.underlying27, Tryd.underlying28, Tryd.underlying29, Tryd.underlying31, Tryd.underlying40, Tryd.underlying42, Tryd.underlying47, Tryd.underlying51, Tryd.underlying61, Tryd.underlying78, wrapI64, builtinV, convV, len9, len_nil, len_slz, len_sl, len_msl, slT, minV, asI, asN, ce_int, ce_str, ce_bool, ce_agg, ce_msl, ce_sl, ce_nilsl, sc_int, sc_str, sc_bool, sc_msl, sc_sl, sc_nilsl, sc_slz, fillV, splice, Heap.put, Heap.get, appendV, srcCells, cellsOf, rowOf, zerosT, isIntT, isStr, maxBytes, indexAddrV, fieldAddrV, fieldOf, sliceV, storeAt, cellsAt, takeV, partV, nextV, strOp, cfst, csnd, mapHd_some, hdS_mk, canonK_some, reach_nil, reach_cons, reachGo, clearTm, refsL, V.refs, Blk.refs, renL, V.ren, Blk.ren, indexOf, subHeap, resultsR, leaveR_some, lastK_ret, lastK_exit, fin_ret, fin_normal, leave_int, leave_bool, leave_str, getK, getLoop, getRest, getB, Tryd.f71, getSt, getRes, leave_two, call73, hi, hd, hr', hB2, h1, hl, hl', wrapU64, hne, hw2, hw3, hD]
    · subst h0
      simp -implicitDefEqProofs [run_seq, run_then, run_then_ret, run_then_exit, run_region, run_regionK, run_cond, run_cond_true, run_cond_false, run_block, run_block_exit, run_block_ret, run_block_normal, evCode_exit, evCode_ret, evCode_skip, evRegion_seq, run_seqs, run_seqK, evSeq_zero, run_step, run_stepO, run_stepK_true, run_stepK_false, run_stepR, wantedV, evOp, evOpR, opd, putTm, putAll, ofValue, ofScalar, binV, intOp, unV, und_p, size_p, bytesOf_p, zeroV_p, aggT_p, size3, size5, size9, size22, size24, size25, size27, size28, size29, size31, size40, size42, size47, agg3, agg5, agg9, agg22, agg24, agg25, agg27, agg28, agg29, agg31, agg40, agg42, agg47, bytesOf3, bytesOf5, bytesOf9, bytesOf42, bytesOf47, zeroV3, zeroV5, zeroV9, zeroV24, zeroV27, zeroV31, zeroV42, zeroV47, Tryd.underlying3, Tryd.underlying5, Tryd.underlying9, Tryd.underlying22, Tryd.underlying24, Tryd.underlying27, Tryd.underlying28, Tryd.underlying29, Tryd.underlying31, Tryd.underlying40, Tryd.underlying42, Tryd.underlying47, Tryd.underlying51, Tryd.underlying61, Tryd.underlying78, wrapI64, builtinV, convV, len9, len_nil, len_slz, len_sl, len_msl, slT, minV, asI, asN, ce_int, ce_str, ce_bool, ce_agg, ce_msl, ce_sl, ce_nilsl, sc_int, sc_str, sc_bool, sc_msl, sc_sl, sc_nilsl, sc_slz, fillV, splice, Heap.put, Heap.get, appendV, srcCells, cellsOf, rowOf, zerosT, isIntT, isStr, maxBytes, indexAddrV, fieldAddrV, fieldOf, sliceV, storeAt, cellsAt, takeV, partV, nextV, strOp, cfst, csnd, mapHd_some, hdS_mk, canonK_some, reach_nil, reach_cons, reachGo, clearTm, refsL, V.refs, Blk.refs, renL, V.ren, Blk.ren, indexOf, subHeap, resultsR, leaveR_some, lastK_ret, lastK_exit, fin_ret, fin_normal, leave_int, leave_bool, leave_str, getK, getLoop, getRest, getB, Tryd.f71, getSt, getRes, leave_two, call73, hi, hd, hr', hA', hB', h1, wrapU64, hw, hne, hw2, hw3, hD]
  · simp -implicitDefEqProofs [run_seq, run_then, run_then_ret, run_then_exit, run_region, run_regionK, run_cond, run_cond_true, run_cond_false, run_block, run_block_exit, run_block_ret, run_block_normal, evCode_exit, evCode_ret, evCode_skip, evRegion_seq, run_seqs, run_seqK, evSeq_zero, run_step, run_stepO, run_stepK_true, run_stepK_false, run_stepR, wantedV, evOp, evOpR, opd, putTm, putAll, ofValue, ofScalar, binV, intOp, unV, und_p, size_p, bytesOf_p, zeroV_p, aggT_p, size3, size5, size9, size22, size24, size25, size27, size28, size29, size31, size40, size42, size47, agg3, agg5, agg9, agg22, agg24, agg25, agg27, agg28, agg29, agg31, agg40, agg42, agg47, bytesOf3, bytesOf5, bytesOf9, bytesOf42, bytesOf47, zeroV3, zeroV5, zeroV9, zeroV24, zeroV27, zeroV31, zeroV42, zeroV47, Tryd.underlying3, Tryd.underlying5, Tryd.underlying9, Tryd.underlying22, Tryd.underlying24, Tryd.underlying27, Tryd.underlying28, Tryd.underlying29, Tryd.underlying31, Tryd.underlying40, Tryd.underlying42, Tryd.underlying47, Tryd.underlying51, Tryd.underlying61, Tryd.underlying78, wrapI64, builtinV, convV, len9, len_nil, len_slz, len_sl, len_msl, slT, minV, asI, asN, ce_int, ce_str, ce_bool, ce_agg, ce_msl, ce_sl, ce_nilsl, sc_int, sc_str, sc_bool, sc_msl, sc_sl, sc_nilsl, sc_slz, fillV, splice, Heap.put, Heap.get, appendV, srcCells, cellsOf, rowOf, zerosT, isIntT, isStr, maxBytes, indexAddrV, fieldAddrV, fieldOf, sliceV, storeAt, cellsAt, takeV, partV, nextV, strOp, cfst, csnd, mapHd_some, hdS_mk, canonK_some, reach_nil, reach_cons, reachGo, clearTm, refsL, V.refs, Blk.refs, renL, V.ren, Blk.ren, indexOf, subHeap, resultsR, leaveR_some, lastK_ret, lastK_exit, fin_ret, fin_normal, leave_int, leave_bool, leave_str, getK, getLoop, getRest, getB, Tryd.f71, getSt, getRes, leave_two, call73, hi, hd, hr', hA', hB', h0, wrapU64, hw, hne, hw2, hw3, hD]
theorem get_next (hn : 0 ≤ n) (hA : 0 ≤ digitV rn) (hB : digitV rn < base) (hC : ¬ (i = 0 ∧ digitV rn = 0 ∧ 1 < s.length)) (hD : n ≤ (18446744073709551615 - digitV rn).tdiv base) :
    mapHd [53, 52, 51, 50, 49, 48, 5, 4, 47, 46, 45, 44, 43, 42, 41, 40, 39, 38, 37, 36, 35, 34, 33, 32, 31, 30, 29, 28, 27, 26, 25, 24, 23, 22, 21, 20, 19, 18, 9, 17, 16, 8, 7, 15, 14, 13, 12] (evCode X3 (m + 30) 71 0 getLoop (getSt s base (i, n))) = some (.normal, getSt s base (i + w, n * base + digitV rn)) := by
  have hr' : (rn : Int) < 2147483648 := by omega
  have hA' : ¬ digitV rn < 0 := by omega
  have hB' : ¬ base ≤ digitV rn := by omega
  have hD' : ¬ (18446744073709551615 - digitV rn).tdiv base < n := by omega
  have hw : digitV rn % 18446744073709551616 = digitV rn := by have := digitV_le rn; omega
  have hw2 : (18446744073709551615 - digitV rn) % 18446744073709551616 = 18446744073709551615 - digitV rn := by have := digitV_le rn; omega
  have hne : base ≠ 0 := by omega
  have hw3 : (18446744073709551615 - digitV rn).tdiv base % 18446744073709551616 = (18446744073709551615 - digitV rn).tdiv base := by
    rw [Int.tdiv_eq_ediv_of_nonneg (by have := digitV_le rn; omega)]
    have := digitV_le rn
    rcases hb with rfl | rfl <;> omega
  have hlt : n * base + digitV rn < 18446744073709551616 := by
    rw [Int.tdiv_eq_ediv_of_nonneg (by have := digitV_le rn; omega)] at hD
    have := digitV_le rn
    rcases hb with rfl | rfl <;> omega
  have hge : 0 ≤ n * base := by rcases hb with rfl | rfl <;> omega
  have hw4 : (n * base) % 18446744073709551616 = n * base := by omega
  have hw5 : (n * base + digitV rn) % 18446744073709551616 = n * base + digitV rn := by omega
  by_cases h0 : i = 0
  · by_cases h1 : digitV rn = 0
    · have hl : ¬ 1 < s.length := fun h => hC ⟨h0, h1, h⟩
      have hl' : ¬ (1 : Int) < s.length := by omega
      have hB2 : ¬ base ≤ 0 := by omega
      rw [h1] at hD' hw2 hw3
      simp at hD' hw2 hw3
      have hD'' := Int.not_lt.2 hD'
      subst h0
      simp -implicitDefEqProofs [run_seq, run_then, run_then_ret, run_then_exit, run_region, run_regionK, run_cond, run_cond_true, run_cond_false, run_block, run_block_exit, run_block_ret, run_block_normal, evCode_exit, evCode_ret, evCode_skip, evRegion_seq, run_seqs, run_seqK, evSeq_zero, run_step, run_stepO, run_stepK_true, run_stepK_false, run_stepR, wantedV, evOp, evOpR, opd, putTm, putAll, ofValue, ofScalar, binV, intOp, unV, und_p, size_p, bytesOf_p, zeroV_p, aggT_p, size3, size5, size9, size22, size24, size25, size27, size28, size29, size31, size40, size42, size47, agg3, agg5, agg9, agg22, agg24, agg25, agg27, agg28, agg29, agg31, agg40, agg42, agg47, bytesOf3, bytesOf5, bytesOf9, bytesOf42, bytesOf47, zeroV3, zeroV5, zeroV9, zeroV24, zeroV27, zeroV31, zeroV42, zeroV47, Tryd.underlying3, Tryd.underlying5, Tryd.underlying9, Tryd.underlying22, Tryd.underlying24, Tryd.underlying27, Tryd.underlying28, Tryd.underlying29, Tryd.underlying31, Tryd.underlying40, Tryd.underlying42, Tryd.underlying47, Tryd.underlying51, Tryd.underlying61, Tryd.underlying78, wrapI64, builtinV, convV, len9, len_nil, len_slz, len_sl, len_msl, slT, minV, asI, asN, ce_int, ce_str, ce_bool, ce_agg, ce_msl, ce_sl, ce_nilsl, sc_int, sc_str, sc_bool, sc_msl, sc_sl, sc_nilsl, sc_slz, fillV, splice, Heap.put, Heap.get, appendV, srcCells, cellsOf, rowOf, zerosT, isIntT, isStr, maxBytes, indexAddrV, fieldAddrV, fieldOf, sliceV, storeAt, cellsAt, takeV, partV, nextV, strOp, cfst, csnd, mapHd_some, hdS_mk, canonK_some, reach_nil, reach_cons, reachGo, clearTm, refsL, V.refs, Blk.refs, renL, V.ren, Blk.ren, indexOf, subHeap, resultsR, leaveR_some, lastK_ret, lastK_exit, fin_ret, fin_normal, leave_int, leave_bool, leave_str, getK, getLoop, getRest, getB, Tryd.f71, getSt, getRes, leave_two, call73, hi, hd, hr', hB2, h1, hl, hl', wrapU64, hne, hw2, hw3, hD'', hw4]
    · subst h0
      simp -implicitDefEqProofs [run_seq, run_then, run_then_ret, run_then_exit, run_region, run_regionK, run_cond, run_cond_true, run_cond_false, run_block, run_block_exit, run_block_ret, run_block_normal, evCode_exit, evCode_ret, evCode_skip, evRegion_seq, run_seqs, run_seqK, evSeq_zero, run_step, run_stepO, run_stepK_true, run_stepK_false, run_stepR, wantedV, evOp, evOpR, opd, putTm, putAll, ofValue, ofScalar, binV, intOp, unV, und_p, size_p, bytesOf_p, zeroV_p, aggT_p, size3, size5, size9, size22, size24, size25, size27, size28, size29, size31, size40, size42, size47, agg3, agg5, agg9, agg22, agg24, agg25, agg27, agg28, agg29, agg31, agg40, agg42, agg47, bytesOf3, bytesOf5, bytesOf9, bytesOf42, bytesOf47, zeroV3, zeroV5, zeroV9, zeroV24, zeroV27, zeroV31, zeroV42, zeroV47, Tryd.underlying3, Tryd.underlying5, Tryd.underlying9, Tryd.underlying22, Tryd.underlying24, Tryd.underlying27, Tryd.underlying28, Tryd.underlying29, Tryd.underlying31, Tryd.underlying40, Tryd.underlying42, Tryd.underlying47, Tryd.underlying51, Tryd.underlying61, Tryd.underlying78, wrapI64, builtinV, convV, len9, len_nil, len_slz, len_sl, len_msl, slT, minV, asI, asN, ce_int, ce_str, ce_bool, ce_agg, ce_msl, ce_sl, ce_nilsl, sc_int, sc_str, sc_bool, sc_msl, sc_sl, sc_nilsl, sc_slz, fillV, splice, Heap.put, Heap.get, appendV, srcCells, cellsOf, rowOf, zerosT, isIntT, isStr, maxBytes, indexAddrV, fieldAddrV, fieldOf, sliceV, storeAt, cellsAt, takeV, partV, nextV, strOp, cfst, csnd, mapHd_some, hdS_mk, canonK_some, reach_nil, reach_cons, reachGo, clearTm, refsL, V.refs, Blk.refs, renL, V.ren, Blk.ren, indexOf, subHeap, resultsR, leaveR_some, lastK_ret, lastK_exit, fin_ret, fin_normal, leave_int, leave_bool, leave_str, getK, getLoop, getRest, getB, Tryd.f71, getSt, getRes, leave_two, call73, hi, hd, hr', hA', hB', h1, wrapU64, hw, hne, hw2, hw3, hD', hw4, hw5]
  · simp -implicitDefEqProofs [run_seq, run_then, run_then_ret, run_then_exit, run_region, run_regionK, run_cond, run_cond_true, run_cond_false, run_block, run_block_exit, run_block_ret, run_block_normal, evCode_exit, evCode_ret, evCode_skip, evRegion_seq, run_seqs, run_seqK, evSeq_zero, run_step, run_stepO, run_stepK_true, run_stepK_false, run_stepR, wantedV, evOp, evOpR, opd, putTm, putAll, ofValue, ofScalar, binV, intOp, unV, und_p, size_p, bytesOf_p, zeroV_p, aggT_p, size3, size5, size9, size22, size24, size25, size27, size28, size29, size31, size40, size42, size47, agg3, agg5, agg9, agg22, agg24, agg25, agg27, agg28, agg29, agg31, agg40, agg42, agg47, bytesOf3, bytesOf5, bytesOf9, bytesOf42, bytesOf47, zeroV3, zeroV5, zeroV9, zeroV24, zeroV27, zeroV31, zeroV42, zeroV47, Tryd.underlying3, Tryd.underlying5, Tryd.underlying9, Tryd.underlying22, Tryd.underlying24, Tryd.underlying27, Tryd.underlying28, Tryd.underlying29, Tryd.underlying31, Tryd.underlying40, Tryd.underlying42, Tryd.underlying47, Tryd.underlying51, Tryd.underlying61, Tryd.underlying78, wrapI64, builtinV, convV, len9, len_nil, len_slz, len_sl, len_msl, slT, minV, asI, asN, ce_int, ce_str, ce_bool, ce_agg, ce_msl, ce_sl, ce_nilsl, sc_int, sc_str, sc_bool, sc_msl, sc_sl, sc_nilsl, sc_slz, fillV, splice, Heap.put, Heap.get, appendV, srcCells, cellsOf, rowOf, zerosT, isIntT, isStr, maxBytes, indexAddrV, fieldAddrV, fieldOf, sliceV, storeAt, cellsAt, takeV, partV, nextV, strOp, cfst, csnd, mapHd_some, hdS_mk, canonK_some, reach_nil, reach_cons, reachGo, clearTm, refsL, V.refs, Blk.refs, renL, V.ren, Blk.ren, indexOf, subHeap, resultsR, leaveR_some, lastK_ret, lastK_exit, fin_ret, fin_normal, leave_int, leave_bool, leave_str, getK, getLoop, getRest, getB, Tryd.f71, getSt, getRes, leave_two, call73, hi, hd, hr', hA', hB', h0, wrapU64, hw, hne, hw2, hw3, hD', hw4, hw5]
end
theorem get_start (s : List UInt8) (base : Int) : hdS [53, 52, 51, 50, 49, 48, 5, 4, 47, 46, 45, 44, 43, 42, 41, 40, 39, 38, 37, 36, 35, 34, 33, 32, 31, 30, 29, 28, 27, 26, 25, 24, 23, 22, 21, 20, 19, 18, 9, 17, 16, 8, 7, 15, 14, 13, 12]
    ⟨[.str s, .int .u64 base, .dead, .dead, .int .u64 0, .bool false, .int .u64 0, .dead, .dead, .dead, .str s, .iter 0] ++ List.replicate 45 .dead, [some (.iter s 0)]⟩ = getSt s base (0, 0) := by
  simp -implicitDefEqProofs [mapHd_some, hdS_mk, canonK_some, reach_nil, reach_cons, reachGo, clearTm, refsL, V.refs, Blk.refs, renL, V.ren, Blk.ren, indexOf, subHeap, getSt, Heap.get]
theorem get_loop (q : Nat) (s : List UInt8) (base : Int) (hb : base = 10 ∨ base = 16) (st : St) (hs : hdS [53, 52, 51, 50, 49, 48, 5, 4, 47, 46, 45, 44, 43, 42, 41, 40, 39, 38, 37, 36, 35, 34, 33, 32, 31, 30, 29, 28, 27, 26, 25, 24, 23, 22, 21, 20, 19, 18, 9, 17, 16, 8, 7, 15, 14, 13, 12] st = getSt s base (0, 0)) :
    getK q (evCode X3 (s.length + 30 + 1) 71 0 (.loop getLoop) st) = some (getRes s (getGo base s.length s 0 0), []) := by
  refine loop_run get_clears (getSt s base) (fun a => a.1 ≤ s.length ∧ 0 ≤ a.2) (fun a => s.length - a.1) (fun a => (getRes s (getGo base s.length (s.drop a.1) a.1 a.2), [])) (getK q) 30 ?_ s.length (0, 0) st (by simp) (by simp) hs
  rintro ⟨i, n⟩ ⟨hi, hn⟩
  simp only at hi hn ⊢
  by_cases he : i = s.length
  · right
    subst he
    intro m
    rw [get_end]
    simp [getGo]
  · have hl : i < s.length := by omega
    have hd : s.drop i = s[i] :: s.drop (i + 1) := List.drop_eq_getElem_cons hl
    by_cases ha : s[i].toNat < 128
    · have hdec := decodeLow s i hl ha
      rw [hd, getGo]
      by_cases hbad : getBad base s.length i n (digitV s[i].toNat)
      · right
        intro m
        rw [if_pos hbad]
        by_cases hA : digitV s[i].toNat < 0
        · exact get_badA q m s base n i _ _ hl hdec (by omega) hb hA
        · by_cases hB : base ≤ digitV s[i].toNat
          · exact get_badB q m s base n i _ _ hl hdec (by omega) hb (by omega) hB
          · by_cases hC : i = 0 ∧ digitV s[i].toNat = 0 ∧ 1 < s.length
            · exact get_badC q m s base n i _ _ hl hdec (by omega) hb (by omega) (by omega) hC.1 hC.2.1 hC.2.2
            · have hD := ((hbad.resolve_left hA).resolve_left hB).resolve_left hC
              exact get_badD q m s base n i _ _ hl hdec (by omega) hb hn (by omega) (by omega) hC hD
      · left
        rw [if_neg hbad]
        unfold getBad at hbad
        simp only [not_or] at hbad
        obtain ⟨hA, hB, hC, hD⟩ := hbad
        refine ⟨(i + 1, n * base + digitV s[i].toNat), ⟨by show i + 1 ≤ s.length; omega, ?_⟩, by show s.length - (i + 1) < s.length - i; omega, rfl, fun m => get_next m s base n i _ _ hl hdec (by omega) hb hn (by omega) (by omega) hC (by omega)⟩
        show 0 ≤ n * base + digitV s[i].toNat
        have h1 : 0 ≤ digitV s[i].toNat := by omega
        have h2 : 0 ≤ n * base := by rcases hb with rfl | rfl <;> omega
        omega
    · right
      have hh := decodeHigh s i hl (by omega)
      cases hdec : Utf8.decode ⟨s.toArray⟩ i with
      | mk rn w =>
        rw [hdec] at hh
        simp only at hh
        intro m
        rw [hd, getGo, if_pos (.inl (by rw [digitV_high (by omega)]; decide))]
        exact get_badA q m s base n i rn w hl hdec (by omega) hb (by rw [digitV_high (by omega)]; decide)
theorem get_ev (s : List UInt8) (base : Int) (hb : base = 10 ∨ base = 16) : evCall X3 (s.length + 36) 71 [.str s, .int .u64 base] [] = some (getRes s (getGo base s.length s 0 0), []) := by
  refine call_fin (nt := 57) (res := #[.tmp 4, .tmp 5]) rfl Tryd.func71 get_shape rfl rfl ?_
  have h := get_loop (s.length + 13) s base hb _ (get_start s base)
  unfold getK at h
  generalize fin X3 #[.tmp 4, .tmp 5] 71 0 = G at h ⊢
  refine Eq.trans (congrArg G ?_) h
  simp -implicitDefEqProofs [run_seq, run_then, run_then_ret, run_then_exit, run_region, run_regionK, run_cond, run_cond_true, run_cond_false, run_block, run_block_exit, run_block_ret, run_block_normal, evCode_exit, evCode_ret, evCode_skip, evRegion_seq, run_seqs, run_seqK, evSeq_zero, run_step, run_stepO, run_stepK_true, run_stepK_false, run_stepR, wantedV, evOp, evOpR, opd, putTm, putAll, ofValue, ofScalar, binV, intOp, unV, und_p, size_p, bytesOf_p, zeroV_p, aggT_p, size3, size5, size9, size22, size24, size25, size27, size28, size29, size31, size40, size42, size47, agg3, agg5, agg9, agg22, agg24, agg25, agg27, agg28, agg29, agg31, agg40, agg42, agg47, bytesOf3, bytesOf5, bytesOf9, bytesOf42, bytesOf47, zeroV3, zeroV5, zeroV9, zeroV24, zeroV27, zeroV31, zeroV42, zeroV47, Tryd.underlying3, Tryd.underlying5, Tryd.underlying9, Tryd.underlying22, Tryd.underlying24, Tryd.underlying27, Tryd.underlying28, Tryd.underlying29, Tryd.underlying31, Tryd.underlying40, Tryd.underlying42, Tryd.underlying47, Tryd.underlying51, Tryd.underlying61, Tryd.underlying78, wrapI64, builtinV, convV, len9, len_nil, len_slz, len_sl, len_msl, slT, minV, asI, asN, ce_int, ce_str, ce_bool, ce_agg, ce_msl, ce_sl, ce_nilsl, sc_int, sc_str, sc_bool, sc_msl, sc_sl, sc_nilsl, sc_slz, fillV, splice, Heap.put, Heap.get, appendV, srcCells, cellsOf, rowOf, zerosT, isIntT, isStr, maxBytes, indexAddrV, fieldAddrV, fieldOf, sliceV, storeAt, cellsAt, takeV, partV, nextV, strOp, cfst, csnd, mapHd_some, hdS_mk, canonK_some, reach_nil, reach_cons, reachGo, clearTm, refsL, V.refs, Blk.refs, renL, V.ren, Blk.ren, indexOf, subHeap, resultsR, leaveR_some, lastK_ret, lastK_exit, fin_ret, fin_normal, leave_int, leave_bool, leave_str, getB, Tryd.f71]
def F71 (args : List V) (H : Heap) : Option (V × Heap) := match args, H with
  | [.str s, .int .u64 base], [] => if base = 10 ∨ base = 16 then some (getRes s (getGo base s.length s 0 0), []) else none
  | _, _ => none
noncomputable def X4 : Ctx := X3.hook 71 F71
instance : Prg X4 := inferInstanceAs (Prg (X3.hook 71 F71))
theorem X4_good : Good X4 := X3_good.hook fun args H r H' h => by
  unfold F71 at h
  split at h
  · split at h
    · rename_i s base hn
      cases h
      exact ⟨_, get_ev s base hn⟩
    · cases h
  · cases h
end Go.Ev
