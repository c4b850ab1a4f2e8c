/- A part of the proof of ReportBack (the second form: what is handed in is of bulk at most 1048576): no statement of the seat's stands here. -/
import Derived.Test.YtoppmjanignfdaaDoorRj
set_option linter.unusedSectionVars false
set_option linter.unusedSimpArgs false
set_option linter.unusedVariables false
set_option linter.all false
set_option linter.unusedVariables false
set_option linter.unusedSimpArgs false
set_option linter.unusedSectionVars false
set_option maxRecDepth 100000
set_option maxHeartbeats 4000000
namespace Go.Ev
open Go Go.Proofs
def leaveK (H : Heap) : V × List Nat → V × Heap
  | (r, frz) => match canon 0 [r] (freezeRows H frz) with
    | ([r'], H') => (r', H')
    | (_, H') => (r, H')
theorem leave_go {X : Ctx} [Prg X] (f : FuncId) (r : V) (H : Heap) : leave X f 0 r H = leaveK H (resolve H 6 r) := by
  unfold leave leaveK
  rw [Prg.k]
  rfl
theorem leaveK_pure (H : Heap) (r : V) (l : List Nat) (hr : r.refs = []) : leaveK H (r, l) = (r, []) := by
  unfold leaveK
  simp only [canon, List.range_zero, List.nil_append, refsL, hr, List.append_nil, reach, List.isEmpty_nil, if_true, List.filter_nil]
  by_cases h : (freezeRows H l) = []
  · simp [h]
  · have : ¬ (freezeRows H l).length = 0 := by simpa using h
    simp [this, renL, ren_id _ _ hr, subHeap]
/- ReadBytes -/
def rbGo : List UInt8 → List Int → Option Int → Option (List Int)
  | [], os, none => some os
  | [], os, some _ => none
  | c :: r, os, none => if digitV c.toNat < 0 then none else rbGo r os (some (digitV c.toNat * 16))
  | c :: r, os, some x => if digitV c.toNat < 0 then none else rbGo r (os ++ [(x + digitV c.toNat) % 256]) none
def sliceB (os : List Int) : V := if os = [] then .nilsl else .sl 1 os.length (bytesI os)
def rbV : Option (List Int) → V
  | none => .tuple [.nilsl, .bool false]
  | some os => .tuple [sliceB os, .bool true]
noncomputable def B60 : Code := Tryd.f60.body.getD .skip
noncomputable def L60 : Code := cfst (cfst (csnd (cfst (csnd (csnd B60)))))
noncomputable def R60 : Code := csnd (csnd (csnd B60))
theorem shape60 : Tryd.f60.body = some (.seq (cfst B60) (.seq (cfst (csnd B60)) (.seq (.seq (cfst (cfst (csnd (csnd B60)))) (.block 0 (.loop L60))) R60))) := by kernel_rfl
/-- The loop's state: the place, what is out, its version. -/
def S60 (s : List UInt8) (i : Nat) (os : List Int) (ver : Nat) : St :=
  if os = [] then ⟨[.str s, .dead, .dead, .dead, .nilsl, .dead, .dead, .dead, .str s, .iter 0] ++ List.replicate 32 .dead, [some (.iter s i)]⟩
  else ⟨[.str s, .dead, .dead, .dead, .msl 0 ver 0 1 os.length, .dead, .dead, .dead, .str s, .iter 1] ++ List.replicate 32 .dead, [some (.row (bytesI os) true ver), some (.iter s i)]⟩
theorem S60_nil {s : List UInt8} {i : Nat} {os : List Int} {ver : Nat} (e : os = []) : S60 s i os ver = ⟨[.str s, .dead, .dead, .dead, .nilsl, .dead, .dead, .dead, .str s, .iter 0] ++ List.replicate 32 .dead, [some (.iter s i)]⟩ := if_pos e
theorem S60_ne {s : List UInt8} {i : Nat} {os : List Int} {ver : Nat} (e : os ≠ []) : S60 s i os ver = ⟨[.str s, .dead, .dead, .dead, .msl 0 ver 0 1 os.length, .dead, .dead, .dead, .str s, .iter 1] ++ List.replicate 32 .dead, [some (.row (bytesI os) true ver), some (.iter s i)]⟩ := if_neg e
theorem bytesI_one (x : Int) : bytesI [x] = [.int .u8 x] := rfl
theorem mslsL_bytes' : ∀ l : List Int, mslsL (bytesI l) = []
  | [] => by simp [bytesI, mslsL]
  | x :: r => by
    have := mslsL_bytes' r
    simp only [bytesI] at this
    simp [bytesI, mslsL, V.msls, this]
def rbOut (os : List Int) : Option Int → List Int
  | none => os
  | some x => os ++ [x]
theorem bytesI_app (a b : List Int) : bytesI (a ++ b) = bytesI a ++ bytesI b := by simp [bytesI]
section
variable {X : Ctx} [h : Low X] (h73 : ∀ rec args H, callWith X rec 73 args H = F73 args H)
include h73
theorem clears60 : clears (X.keepSlots 60) L60 = [36, 35, 34, 33, 32, 31, 30, 29, 28, 27, 26, 25, 24, 23, 22, 21, 20, 19, 18, 3, 2, 17, 16, 7, 15, 14, 6, 5, 13, 12, 11, 10] := by rw [Prg.l]; kernel_rfl
end
noncomputable def K60 (X : Ctx) (q : Nat) (o : Option (Ex × St)) : Option (V × Heap) := fin X #[.tmp 2, .tmp 3] 60 0 (thenK X (q + 20) 60 0 R60 (blockK 0 o))
section
variable {X : Ctx} [h : Low X] (h73 : ∀ rec args H, callWith X rec 73 args H = F73 args H)
variable (q m : Nat) (s : List UInt8) (i : Nat) (rn w : Nat) (hi : i < s.length) (hd : Utf8.decode ⟨s.toArray⟩ i = (rn, w)) (hr : rn < 2147483648)
include h73 hi hd hr
theorem bad60 (os : List Int) (ver : Nat) (hA : digitV rn < 0) : lastK (K60 X q) (evCode X (m + 40) 60 0 L60 (S60 s i os ver)) = some (rbV none, []) := by
  have hr' : (rn : Int) < 2147483648 := by omega
  have hF : F73 [.int .i32 rn] [] = some (.int .i64 (digitV rn), []) := by simp [F73, hr']
  unfold S60
  by_cases e : os = []
  · rw [if_pos e]
    simp -implicitDefEqProofs [run_seq, run_then, run_then_ret, run_then_exit, run_region, run_regionK, run_cond, run_cond_true, run_cond_false, run_block, run_block_exit, run_block_ret, run_block_normal, evCode_exit, evCode_ret, evCode_skip, evRegion_seq, run_seqs, run_seqK, evSeq_zero, run_step, run_stepO, run_stepK_true, run_stepK_false, run_stepR, wantedV, evOp, evOpR, opd, putTm, putAll, ofValue, ofScalar, binV, intOp, unV, und_p, size_p, bytesOf_p, zeroV_p, aggT_p, size3, size5, size9, size22, size24, size25, size27, size28, size29, size31, size40, size42, size47, agg3, agg5, agg9, agg22, agg24, agg25, agg27, agg28, agg29, agg31, agg40, agg42, agg47, bytesOf3, bytesOf5, bytesOf9, bytesOf42, bytesOf47, zeroV3, zeroV5, zeroV9, zeroV24, zeroV27, zeroV31, zeroV42, zeroV47, Tryd.underlying3, Tryd.underlying5, Tryd.underlying9, Tryd.underlying22, Tryd.underlying24, Tryd.underlying27, Tryd.underlying28, Tryd.underlying29, Tryd.underlying31, Tryd.underlying40, Tryd.underlying42, Tryd.underlying47, Tryd.underlying51, Tryd.underlying61, Tryd.underlying78, wrapI64, builtinV, convV, len9, len_nil, len_slz, len_sl, len_msl, slT, minV, asI, asN, ce_int, ce_str, ce_bool, ce_agg, ce_msl, ce_sl, ce_nilsl, sc_int, sc_str, sc_bool, sc_msl, sc_sl, sc_nilsl, sc_slz, fillV, splice, Heap.put, Heap.get, appendV, srcCells, cellsOf, rowOf, zerosT, isIntT, isStr, maxBytes, indexAddrV, fieldAddrV, fieldOf, sliceV, storeAt, cellsAt, takeV, partV, nextV, strOp, cfst, csnd, mapHd_some, hdS_mk, canonK_some, reach_nil, reach_cons, reachGo, clearTm, refsL, V.refs, Blk.refs, renL, V.ren, Blk.ren, indexOf, subHeap, resultsR, leaveR_some, lastK_ret, lastK_exit, fin_ret, fin_normal, leave_int, leave_bool, leave_str, run_callV, ext_p, XR_x, mut_p, callA_tuple, callB_some, callC_some, resolve_go, resolveK_nil, resolveK_cons, mergeAt, freezeRows, freezeRow, V.msls, mslsL, V.deep, deepL, V.resolve1, V.flat, flatL, c17, c34, c47, c71, evRegion_draw, drawK_some, run_cons, run_traceK, run_trace, run_trace0, run_traceN, run_traceC, K60, L60, R60, B60, Tryd.f60, rbV, h73, hF, hi, hd, hA, leave_go, leaveK_pure]
  · rw [if_neg e]
    simp -implicitDefEqProofs [run_seq, run_then, run_then_ret, run_then_exit, run_region, run_regionK, run_cond, run_cond_true, run_cond_false, run_block, run_block_exit, run_block_ret, run_block_normal, evCode_exit, evCode_ret, evCode_skip, evRegion_seq, run_seqs, run_seqK, evSeq_zero, run_step, run_stepO, run_stepK_true, run_stepK_false, run_stepR, wantedV, evOp, evOpR, opd, putTm, putAll, ofValue, ofScalar, binV, intOp, unV, und_p, size_p, bytesOf_p, zeroV_p, aggT_p, size3, size5, size9, size22, size24, size25, size27, size28, size29, size31, size40, size42, size47, agg3, agg5, agg9, agg22, agg24, agg25, agg27, agg28, agg29, agg31, agg40, agg42, agg47, bytesOf3, bytesOf5, bytesOf9, bytesOf42, bytesOf47, zeroV3, zeroV5, zeroV9, zeroV24, zeroV27, zeroV31, zeroV42, zeroV47, Tryd.underlying3, Tryd.underlying5, Tryd.underlying9, Tryd.underlying22, Tryd.underlying24, Tryd.underlying27, Tryd.underlying28, Tryd.underlying29, Tryd.underlying31, Tryd.underlying40, Tryd.underlying42, Tryd.underlying47, Tryd.underlying51, Tryd.underlying61, Tryd.underlying78, wrapI64, builtinV, convV, len9, len_nil, len_slz, len_sl, len_msl, slT, minV, asI, asN, ce_int, ce_str, ce_bool, ce_agg, ce_msl, ce_sl, ce_nilsl, sc_int, sc_str, sc_bool, sc_msl, sc_sl, sc_nilsl, sc_slz, fillV, splice, Heap.put, Heap.get, appendV, srcCells, cellsOf, rowOf, zerosT, isIntT, isStr, maxBytes, indexAddrV, fieldAddrV, fieldOf, sliceV, storeAt, cellsAt, takeV, partV, nextV, strOp, cfst, csnd, mapHd_some, hdS_mk, canonK_some, reach_nil, reach_cons, reachGo, clearTm, refsL, V.refs, Blk.refs, renL, V.ren, Blk.ren, indexOf, subHeap, resultsR, leaveR_some, lastK_ret, lastK_exit, fin_ret, fin_normal, leave_int, leave_bool, leave_str, run_callV, ext_p, XR_x, mut_p, callA_tuple, callB_some, callC_some, resolve_go, resolveK_nil, resolveK_cons, mergeAt, freezeRows, freezeRow, V.msls, mslsL, V.deep, deepL, V.resolve1, V.flat, flatL, c17, c34, c47, c71, evRegion_draw, drawK_some, run_cons, run_traceK, run_trace, run_trace0, run_traceN, run_traceC, K60, L60, R60, B60, Tryd.f60, rbV, h73, hF, hi, hd, hA, leave_go, leaveK_pure]
theorem even60 (os : List Int) (ver : Nat) (hA : 0 ≤ digitV rn) (hp : i % 2 = 0) (hb : os.length ≤ 1000000000000) :
    mapHd [36, 35, 34, 33, 32, 31, 30, 29, 28, 27, 26, 25, 24, 23, 22, 21, 20, 19, 18, 3, 2, 17, 16, 7, 15, 14, 6, 5, 13, 12, 11, 10] (evCode X (m + 40) 60 0 L60 (S60 s i os ver)) = some (.normal, S60 s (i + w) (os ++ [digitV rn * 16]) (if os = [] then 0 else ver + 1)) := by
  have hr' : (rn : Int) < 2147483648 := by omega
  have hF : F73 [.int .i32 rn] [] = some (.int .i64 (digitV rn), []) := by simp [F73, hr']
  have hA' : ¬ digitV rn < 0 := by omega
  have hle := digitV_le rn
  have w1 : IntKind.i64.wrap (digitV rn * 16) = digitV rn * 16 := wrapI64 (by omega) (by omega)
  have w2 : digitV rn * 16 % 256 = digitV rn * 16 := by omega
  have hm : (i : Int).tmod 2 = 0 := by rw [Int.tmod_eq_emod_of_nonneg (by omega)]; omega
  have g1 : 2 * (os.length + 1) ≤ 70368744176664 := by omega
  have tk := take_bytes os
  have hl := bytesI_len os
  by_cases e : os = []
  · rw [if_pos e, S60_nil e, S60_ne (by simp : os ++ [digitV rn * 16] ≠ [])]
    subst e
    simp -implicitDefEqProofs [run_seq, run_then, run_then_ret, run_then_exit, run_region, run_regionK, run_cond, run_cond_true, run_cond_false, run_block, run_block_exit, run_block_ret, run_block_normal, evCode_exit, evCode_ret, evCode_skip, evRegion_seq, run_seqs, run_seqK, evSeq_zero, run_step, run_stepO, run_stepK_true, run_stepK_false, run_stepR, wantedV, evOp, evOpR, opd, putTm, putAll, ofValue, ofScalar, binV, intOp, unV, und_p, size_p, bytesOf_p, zeroV_p, aggT_p, size3, size5, size9, size22, size24, size25, size27, size28, size29, size31, size40, size42, size47, agg3, agg5, agg9, agg22, agg24, agg25, agg27, agg28, agg29, agg31, agg40, agg42, agg47, bytesOf3, bytesOf5, bytesOf9, bytesOf42, bytesOf47, zeroV3, zeroV5, zeroV9, zeroV24, zeroV27, zeroV31, zeroV42, zeroV47, Tryd.underlying3, Tryd.underlying5, Tryd.underlying9, Tryd.underlying22, Tryd.underlying24, Tryd.underlying27, Tryd.underlying28, Tryd.underlying29, Tryd.underlying31, Tryd.underlying40, Tryd.underlying42, Tryd.underlying47, Tryd.underlying51, Tryd.underlying61, Tryd.underlying78, wrapI64, builtinV, convV, len9, len_nil, len_slz, len_sl, len_msl, slT, minV, asI, asN, ce_int, ce_str, ce_bool, ce_agg, ce_msl, ce_sl, ce_nilsl, sc_int, sc_str, sc_bool, sc_msl, sc_sl, sc_nilsl, sc_slz, fillV, splice, Heap.put, Heap.get, appendV, srcCells, cellsOf, rowOf, zerosT, isIntT, isStr, maxBytes, indexAddrV, fieldAddrV, fieldOf, sliceV, storeAt, cellsAt, takeV, partV, nextV, strOp, cfst, csnd, mapHd_some, hdS_mk, canonK_some, reach_nil, reach_cons, reachGo, clearTm, refsL, V.refs, Blk.refs, renL, V.ren, Blk.ren, indexOf, subHeap, resultsR, leaveR_some, lastK_ret, lastK_exit, fin_ret, fin_normal, leave_int, leave_bool, leave_str, run_callV, ext_p, XR_x, mut_p, callA_tuple, callB_some, callC_some, resolve_go, resolveK_nil, resolveK_cons, mergeAt, freezeRows, freezeRow, V.msls, mslsL, V.deep, deepL, V.resolve1, V.flat, flatL, c17, c34, c47, c71, evRegion_draw, drawK_some, run_cons, run_traceK, run_trace, run_trace0, run_traceN, run_traceC, K60, L60, R60, B60, Tryd.f60, rbV, h73, hF, hi, hd, hA', hm, wrapU8, w1, w2, bytesI]
  · rw [if_neg e, S60_ne e, S60_ne (by simp : os ++ [digitV rn * 16] ≠ [])]
    simp -implicitDefEqProofs [run_seq, run_then, run_then_ret, run_then_exit, run_region, run_regionK, run_cond, run_cond_true, run_cond_false, run_block, run_block_exit, run_block_ret, run_block_normal, evCode_exit, evCode_ret, evCode_skip, evRegion_seq, run_seqs, run_seqK, evSeq_zero, run_step, run_stepO, run_stepK_true, run_stepK_false, run_stepR, wantedV, evOp, evOpR, opd, putTm, putAll, ofValue, ofScalar, binV, intOp, unV, und_p, size_p, bytesOf_p, zeroV_p, aggT_p, size3, size5, size9, size22, size24, size25, size27, size28, size29, size31, size40, size42, size47, agg3, agg5, agg9, agg22, agg24, agg25, agg27, agg28, agg29, agg31, agg40, agg42, agg47, bytesOf3, bytesOf5, bytesOf9, bytesOf42, bytesOf47, zeroV3, zeroV5, zeroV9, zeroV24, zeroV27, zeroV31, zeroV42, zeroV47, Tryd.underlying3, Tryd.underlying5, Tryd.underlying9, Tryd.underlying22, Tryd.underlying24, Tryd.underlying27, Tryd.underlying28, Tryd.underlying29, Tryd.underlying31, Tryd.underlying40, Tryd.underlying42, Tryd.underlying47, Tryd.underlying51, Tryd.underlying61, Tryd.underlying78, wrapI64, builtinV, convV, len9, len_nil, len_slz, len_sl, len_msl, slT, minV, asI, asN, ce_int, ce_str, ce_bool, ce_agg, ce_msl, ce_sl, ce_nilsl, sc_int, sc_str, sc_bool, sc_msl, sc_sl, sc_nilsl, sc_slz, fillV, splice, Heap.put, Heap.get, appendV, srcCells, cellsOf, rowOf, zerosT, isIntT, isStr, maxBytes, indexAddrV, fieldAddrV, fieldOf, sliceV, storeAt, cellsAt, takeV, partV, nextV, strOp, cfst, csnd, mapHd_some, hdS_mk, canonK_some, reach_nil, reach_cons, reachGo, clearTm, refsL, V.refs, Blk.refs, renL, V.ren, Blk.ren, indexOf, subHeap, resultsR, leaveR_some, lastK_ret, lastK_exit, fin_ret, fin_normal, leave_int, leave_bool, leave_str, run_callV, ext_p, XR_x, mut_p, callA_tuple, callB_some, callC_some, resolve_go, resolveK_nil, resolveK_cons, mergeAt, freezeRows, freezeRow, V.msls, mslsL, V.deep, deepL, V.resolve1, V.flat, flatL, c17, c34, c47, c71, evRegion_draw, drawK_some, run_cons, run_traceK, run_trace, run_trace0, run_traceN, run_traceC, K60, L60, R60, B60, Tryd.f60, rbV, h73, hF, hi, hd, hA', hm, wrapU8, w1, w2, g1, tk, hl, noScalar, refsL_bytes, renL_bytes, bytesI_app, refsL_app', renL_app', bytesI_one]
theorem odd60 (os : List Int) (x : Int) (ver : Nat) (hA : 0 ≤ digitV rn) (hp : i % 2 = 1) (hb : os.length ≤ 1000000000000) (hx0 : 0 ≤ x) (hx : x < 256) :
    mapHd [36, 35, 34, 33, 32, 31, 30, 29, 28, 27, 26, 25, 24, 23, 22, 21, 20, 19, 18, 3, 2, 17, 16, 7, 15, 14, 6, 5, 13, 12, 11, 10] (evCode X (m + 40) 60 0 L60 (S60 s i (os ++ [x]) ver)) = some (.normal, S60 s (i + w) (os ++ [(x + digitV rn) % 256]) ver) := by
  have hr' : (rn : Int) < 2147483648 := by omega
  have hF : F73 [.int .i32 rn] [] = some (.int .i64 (digitV rn), []) := by simp [F73, hr']
  have hA' : ¬ digitV rn < 0 := by omega
  have hle := digitV_le rn
  have w2 : digitV rn % 256 = digitV rn := by omega
  have hm : (i : Int).tmod 2 = 1 := by rw [Int.tmod_eq_emod_of_nonneg (by omega)]; omega
  have w0 : IntKind.i64.wrap (os.length : Int) = os.length := wrapI64 (by omega) (by omega)
  have tk := take_bytes os
  have hl := bytesI_len os
  rw [S60_ne (by simp : os ++ [x] ≠ []), S60_ne (by simp : os ++ [(x + digitV rn) % 256] ≠ [])]
  have lt : (os.length : Int) < (os.length : Int) + 1 := by omega
  have t1 : ∀ v : V, (bytesI os ++ [v]).take os.length = bytesI os := fun v => List.take_left' hl
  have t2 : ∀ v : V, (bytesI os ++ [v]).drop os.length = [v] := fun v => List.drop_left' hl
  have t3 : ∀ v : V, (bytesI os ++ [v]).drop (os.length + 1) = [] := fun v => List.drop_of_length_le (by simp [hl])
  simp -implicitDefEqProofs [run_seq, run_then, run_then_ret, run_then_exit, run_region, run_regionK, run_cond, run_cond_true, run_cond_false, run_block, run_block_exit, run_block_ret, run_block_normal, evCode_exit, evCode_ret, evCode_skip, evRegion_seq, run_seqs, run_seqK, evSeq_zero, run_step, run_stepO, run_stepK_true, run_stepK_false, run_stepR, wantedV, evOp, evOpR, opd, putTm, putAll, ofValue, ofScalar, binV, intOp, unV, und_p, size_p, bytesOf_p, zeroV_p, aggT_p, size3, size5, size9, size22, size24, size25, size27, size28, size29, size31, size40, size42, size47, agg3, agg5, agg9, agg22, agg24, agg25, agg27, agg28, agg29, agg31, agg40, agg42, agg47, bytesOf3, bytesOf5, bytesOf9, bytesOf42, bytesOf47, zeroV3, zeroV5, zeroV9, zeroV24, zeroV27, zeroV31, zeroV42, zeroV47, Tryd.underlying3, Tryd.underlying5, Tryd.underlying9, Tryd.underlying22, Tryd.underlying24, Tryd.underlying27, Tryd.underlying28, Tryd.underlying29, Tryd.underlying31, Tryd.underlying40, Tryd.underlying42, Tryd.underlying47, Tryd.underlying51, Tryd.underlying61, Tryd.underlying78, wrapI64, builtinV, convV, len9, len_nil, len_slz, len_sl, len_msl, slT, minV, asI, asN, ce_int, ce_str, ce_bool, ce_agg, ce_msl, ce_sl, ce_nilsl, sc_int, sc_str, sc_bool, sc_msl, sc_sl, sc_nilsl, sc_slz, fillV, splice, Heap.put, Heap.get, appendV, srcCells, cellsOf, rowOf, zerosT, isIntT, isStr, maxBytes, indexAddrV, fieldAddrV, fieldOf, sliceV, storeAt, cellsAt, takeV, partV, nextV, strOp, cfst, csnd, mapHd_some, hdS_mk, canonK_some, reach_nil, reach_cons, reachGo, clearTm, refsL, V.refs, Blk.refs, renL, V.ren, Blk.ren, indexOf, subHeap, resultsR, leaveR_some, lastK_ret, lastK_exit, fin_ret, fin_normal, leave_int, leave_bool, leave_str, run_callV, ext_p, XR_x, mut_p, callA_tuple, callB_some, callC_some, resolve_go, resolveK_nil, resolveK_cons, mergeAt, freezeRows, freezeRow, V.msls, mslsL, V.deep, deepL, V.resolve1, V.flat, flatL, c17, c34, c47, c71, evRegion_draw, drawK_some, run_cons, run_traceK, run_trace, run_trace0, run_traceN, run_traceC, K60, L60, R60, B60, Tryd.f60, rbV, h73, hF, hi, hd, hA', hm, wrapU8, w0, w2, tk, hl, noScalar, refsL_bytes, renL_bytes, bytesI_app, refsL_app', renL_app', bytesI_one, t1, t2, t3, lt]
end
section
variable {X : Ctx} [h : Low X] (h73 : ∀ rec args H, callWith X rec 73 args H = F73 args H)
include h73
theorem end60 (q m : Nat) (s : List UInt8) (os : List Int) (ver : Nat) : lastK (K60 X q) (evCode X (m + 40) 60 0 L60 (S60 s s.length os ver)) = some (if s.length % 2 = 0 then rbV (some os) else rbV none, []) := by
  have tk := take_bytes os
  have hl := bytesI_len os
  by_cases hp : s.length % 2 = 0
  · rw [if_pos hp]
    have hm : (s.length : Int).tmod 2 = 0 := by rw [Int.tmod_eq_emod_of_nonneg (by omega)]; omega
    by_cases e : os = []
    · rw [S60_nil e]
      subst e
      simp -implicitDefEqProofs [run_seq, run_then, run_then_ret, run_then_exit, run_region, run_regionK, run_cond, run_cond_true, run_cond_false, run_block, run_block_exit, run_block_ret, run_block_normal, evCode_exit, evCode_ret, evCode_skip, evRegion_seq, run_seqs, run_seqK, evSeq_zero, run_step, run_stepO, run_stepK_true, run_stepK_false, run_stepR, wantedV, evOp, evOpR, opd, putTm, putAll, ofValue, ofScalar, binV, intOp, unV, und_p, size_p, bytesOf_p, zeroV_p, aggT_p, size3, size5, size9, size22, size24, size25, size27, size28, size29, size31, size40, size42, size47, agg3, agg5, agg9, agg22, agg24, agg25, agg27, agg28, agg29, agg31, agg40, agg42, agg47, bytesOf3, bytesOf5, bytesOf9, bytesOf42, bytesOf47, zeroV3, zeroV5, zeroV9, zeroV24, zeroV27, zeroV31, zeroV42, zeroV47, Tryd.underlying3, Tryd.underlying5, Tryd.underlying9, Tryd.underlying22, Tryd.underlying24, Tryd.underlying27, Tryd.underlying28, Tryd.underlying29, Tryd.underlying31, Tryd.underlying40, Tryd.underlying42, Tryd.underlying47, Tryd.underlying51, Tryd.underlying61, Tryd.underlying78, wrapI64, builtinV, convV, len9, len_nil, len_slz, len_sl, len_msl, slT, minV, asI, asN, ce_int, ce_str, ce_bool, ce_agg, ce_msl, ce_sl, ce_nilsl, sc_int, sc_str, sc_bool, sc_msl, sc_sl, sc_nilsl, sc_slz, fillV, splice, Heap.put, Heap.get, appendV, srcCells, cellsOf, rowOf, zerosT, isIntT, isStr, maxBytes, indexAddrV, fieldAddrV, fieldOf, sliceV, storeAt, cellsAt, takeV, partV, nextV, strOp, cfst, csnd, mapHd_some, hdS_mk, canonK_some, reach_nil, reach_cons, reachGo, clearTm, refsL, V.refs, Blk.refs, renL, V.ren, Blk.ren, indexOf, subHeap, resultsR, leaveR_some, lastK_ret, lastK_exit, fin_ret, fin_normal, leave_int, leave_bool, leave_str, run_callV, ext_p, XR_x, mut_p, callA_tuple, callB_some, callC_some, resolve_go, resolveK_nil, resolveK_cons, mergeAt, freezeRows, freezeRow, V.msls, mslsL, V.deep, deepL, V.resolve1, V.flat, flatL, c17, c34, c47, c71, evRegion_draw, drawK_some, run_cons, run_traceK, run_trace, run_trace0, run_traceN, run_traceC, K60, L60, R60, B60, Tryd.f60, rbV, sliceB, hm, leave_go, leaveK_pure]
    · rw [S60_ne e]
      simp -implicitDefEqProofs [run_seq, run_then, run_then_ret, run_then_exit, run_region, run_regionK, run_cond, run_cond_true, run_cond_false, run_block, run_block_exit, run_block_ret, run_block_normal, evCode_exit, evCode_ret, evCode_skip, evRegion_seq, run_seqs, run_seqK, evSeq_zero, run_step, run_stepO, run_stepK_true, run_stepK_false, run_stepR, wantedV, evOp, evOpR, opd, putTm, putAll, ofValue, ofScalar, binV, intOp, unV, und_p, size_p, bytesOf_p, zeroV_p, aggT_p, size3, size5, size9, size22, size24, size25, size27, size28, size29, size31, size40, size42, size47, agg3, agg5, agg9, agg22, agg24, agg25, agg27, agg28, agg29, agg31, agg40, agg42, agg47, bytesOf3, bytesOf5, bytesOf9, bytesOf42, bytesOf47, zeroV3, zeroV5, zeroV9, zeroV24, zeroV27, zeroV31, zeroV42, zeroV47, Tryd.underlying3, Tryd.underlying5, Tryd.underlying9, Tryd.underlying22, Tryd.underlying24, Tryd.underlying27, Tryd.underlying28, Tryd.underlying29, Tryd.underlying31, Tryd.underlying40, Tryd.underlying42, Tryd.underlying47, Tryd.underlying51, Tryd.underlying61, Tryd.underlying78, wrapI64, builtinV, convV, len9, len_nil, len_slz, len_sl, len_msl, slT, minV, asI, asN, ce_int, ce_str, ce_bool, ce_agg, ce_msl, ce_sl, ce_nilsl, sc_int, sc_str, sc_bool, sc_msl, sc_sl, sc_nilsl, sc_slz, fillV, splice, Heap.put, Heap.get, appendV, srcCells, cellsOf, rowOf, zerosT, isIntT, isStr, maxBytes, indexAddrV, fieldAddrV, fieldOf, sliceV, storeAt, cellsAt, takeV, partV, nextV, strOp, cfst, csnd, mapHd_some, hdS_mk, canonK_some, reach_nil, reach_cons, reachGo, clearTm, refsL, V.refs, Blk.refs, renL, V.ren, Blk.ren, indexOf, subHeap, resultsR, leaveR_some, lastK_ret, lastK_exit, fin_ret, fin_normal, leave_int, leave_bool, leave_str, run_callV, ext_p, XR_x, mut_p, callA_tuple, callB_some, callC_some, resolve_go, resolveK_nil, resolveK_cons, mergeAt, freezeRows, freezeRow, V.msls, mslsL, V.deep, deepL, V.resolve1, V.flat, flatL, c17, c34, c47, c71, evRegion_draw, drawK_some, run_cons, run_traceK, run_trace, run_trace0, run_traceN, run_traceC, K60, L60, R60, B60, Tryd.f60, rbV, sliceB, e, hm, leave_go, leaveK_pure, tk, hl, refsL_bytes, mslsL_bytes']
  · rw [if_neg hp]
    have hm : (s.length : Int).tmod 2 = 1 := by rw [Int.tmod_eq_emod_of_nonneg (by omega)]; omega
    by_cases e : os = []
    · rw [S60_nil e]
      subst e
      simp -implicitDefEqProofs [run_seq, run_then, run_then_ret, run_then_exit, run_region, run_regionK, run_cond, run_cond_true, run_cond_false, run_block, run_block_exit, run_block_ret, run_block_normal, evCode_exit, evCode_ret, evCode_skip, evRegion_seq, run_seqs, run_seqK, evSeq_zero, run_step, run_stepO, run_stepK_true, run_stepK_false, run_stepR, wantedV, evOp, evOpR, opd, putTm, putAll, ofValue, ofScalar, binV, intOp, unV, und_p, size_p, bytesOf_p, zeroV_p, aggT_p, size3, size5, size9, size22, size24, size25, size27, size28, size29, size31, size40, size42, size47, agg3, agg5, agg9, agg22, agg24, agg25, agg27, agg28, agg29, agg31, agg40, agg42, agg47, bytesOf3, bytesOf5, bytesOf9, bytesOf42, bytesOf47, zeroV3, zeroV5, zeroV9, zeroV24, zeroV27, zeroV31, zeroV42, zeroV47, Tryd.underlying3, Tryd.underlying5, Tryd.underlying9, Tryd.underlying22, Tryd.underlying24, Tryd.underlying27, Tryd.underlying28, Tryd.underlying29, Tryd.underlying31, Tryd.underlying40, Tryd.underlying42, Tryd.underlying47, Tryd.underlying51, Tryd.underlying61, Tryd.underlying78, wrapI64, builtinV, convV, len9, len_nil, len_slz, len_sl, len_msl, slT, minV, asI, asN, ce_int, ce_str, ce_bool, ce_agg, ce_msl, ce_sl, ce_nilsl, sc_int, sc_str, sc_bool, sc_msl, sc_sl, sc_nilsl, sc_slz, fillV, splice, Heap.put, Heap.get, appendV, srcCells, cellsOf, rowOf, zerosT, isIntT, isStr, maxBytes, indexAddrV, fieldAddrV, fieldOf, sliceV, storeAt, cellsAt, takeV, partV, nextV, strOp, cfst, csnd, mapHd_some, hdS_mk, canonK_some, reach_nil, reach_cons, reachGo, clearTm, refsL, V.refs, Blk.refs, renL, V.ren, Blk.ren, indexOf, subHeap, resultsR, leaveR_some, lastK_ret, lastK_exit, fin_ret, fin_normal, leave_int, leave_bool, leave_str, run_callV, ext_p, XR_x, mut_p, callA_tuple, callB_some, callC_some, resolve_go, resolveK_nil, resolveK_cons, mergeAt, freezeRows, freezeRow, V.msls, mslsL, V.deep, deepL, V.resolve1, V.flat, flatL, c17, c34, c47, c71, evRegion_draw, drawK_some, run_cons, run_traceK, run_trace, run_trace0, run_traceN, run_traceC, K60, L60, R60, B60, Tryd.f60, rbV, sliceB, hm, leave_go, leaveK_pure]
    · rw [S60_ne e]
      simp -implicitDefEqProofs [run_seq, run_then, run_then_ret, run_then_exit, run_region, run_regionK, run_cond, run_cond_true, run_cond_false, run_block, run_block_exit, run_block_ret, run_block_normal, evCode_exit, evCode_ret, evCode_skip, evRegion_seq, run_seqs, run_seqK, evSeq_zero, run_step, run_stepO, run_stepK_true, run_stepK_false, run_stepR, wantedV, evOp, evOpR, opd, putTm, putAll, ofValue, ofScalar, binV, intOp, unV, und_p, size_p, bytesOf_p, zeroV_p, aggT_p, size3, size5, size9, size22, size24, size25, size27, size28, size29, size31, size40, size42, size47, agg3, agg5, agg9, agg22, agg24, agg25, agg27, agg28, agg29, agg31, agg40, agg42, agg47, bytesOf3, bytesOf5, bytesOf9, bytesOf42, bytesOf47, zeroV3, zeroV5, zeroV9, zeroV24, zeroV27, zeroV31, zeroV42, zeroV47, Tryd.underlying3, Tryd.underlying5, Tryd.underlying9, Tryd.underlying22, Tryd.underlying24, Tryd.underlying27, Tryd.underlying28, Tryd.underlying29, Tryd.underlying31, Tryd.underlying40, Tryd.underlying42, Tryd.underlying47, Tryd.underlying51, Tryd.underlying61, Tryd.underlying78, wrapI64, builtinV, convV, len9, len_nil, len_slz, len_sl, len_msl, slT, minV, asI, asN, ce_int, ce_str, ce_bool, ce_agg, ce_msl, ce_sl, ce_nilsl, sc_int, sc_str, sc_bool, sc_msl, sc_sl, sc_nilsl, sc_slz, fillV, splice, Heap.put, Heap.get, appendV, srcCells, cellsOf, rowOf, zerosT, isIntT, isStr, maxBytes, indexAddrV, fieldAddrV, fieldOf, sliceV, storeAt, cellsAt, takeV, partV, nextV, strOp, cfst, csnd, mapHd_some, hdS_mk, canonK_some, reach_nil, reach_cons, reachGo, clearTm, refsL, V.refs, Blk.refs, renL, V.ren, Blk.ren, indexOf, subHeap, resultsR, leaveR_some, lastK_ret, lastK_exit, fin_ret, fin_normal, leave_int, leave_bool, leave_str, run_callV, ext_p, XR_x, mut_p, callA_tuple, callB_some, callC_some, resolve_go, resolveK_nil, resolveK_cons, mergeAt, freezeRows, freezeRow, V.msls, mslsL, V.deep, deepL, V.resolve1, V.flat, flatL, c17, c34, c47, c71, evRegion_draw, drawK_some, run_cons, run_traceK, run_trace, run_trace0, run_traceN, run_traceC, K60, L60, R60, B60, Tryd.f60, rbV, sliceB, hm, leave_go, leaveK_pure]
theorem loop60 (q : Nat) (s : List UInt8) (hs : s.length ≤ 1000000000) (st : St) (hst : hdS [36, 35, 34, 33, 32, 31, 30, 29, 28, 27, 26, 25, 24, 23, 22, 21, 20, 19, 18, 3, 2, 17, 16, 7, 15, 14, 6, 5, 13, 12, 11, 10] st = S60 s 0 [] 0) :
    K60 X q (evCode X (s.length + 40 + 1) 60 0 (.loop L60) st) = some (rbV (rbGo s [] none), []) := by
  refine loop_run (clears60 h73) (fun a : Nat × List Int × Option Int × Nat => S60 s a.1 (rbOut a.2.1 a.2.2.1) a.2.2.2)
    (fun a => a.1 ≤ s.length ∧ 2 * a.2.1.length + (if a.2.2.1 = none then 0 else 1) = a.1 ∧ ∀ x, a.2.2.1 = some x → 0 ≤ x ∧ x < 256) (fun a => s.length - a.1)
    (fun a => (rbV (rbGo (s.drop a.1) a.2.1 a.2.2.1), [])) (K60 X q) 40 ?_ s.length (0, [], none, 0) st (by simp) (by simp) hst
  rintro ⟨i, os, pend, ver⟩ ⟨hi, hp, hx⟩
  simp only at hi hp hx ⊢
  by_cases he : i = s.length
  · right
    subst he
    intro m
    rw [end60 h73]
    cases pend with
    | none =>
      rw [if_pos (by simp at hp; omega)]
      simp [rbOut, rbGo]
    | some x =>
      rw [if_neg (by simp at hp; omega)]
      simp [rbGo]
  · have hl : i < s.length := by omega
    have hd : s.drop i = s[i] :: s.drop (i + 1) := List.drop_eq_getElem_cons hl
    by_cases ha : s[i].toNat < 128
    · have hdec := decodeLow s i hl ha
      by_cases hA : digitV s[i].toNat < 0
      · right
        intro m
        rw [hd, bad60 h73 q m s i _ _ hl hdec (by omega) _ ver hA]
        cases pend <;> simp [rbGo, hA]
      · left
        cases pend with
        | none =>
          refine ⟨(i + 1, os, some (digitV s[i].toNat * 16), if os = [] then 0 else ver + 1), ⟨by show i + 1 ≤ _; omega, by simp at hp ⊢; omega, ?_⟩, by show s.length - (i + 1) < s.length - i; omega, by simp only; rw [hd, rbGo, if_neg hA], fun m => ?_⟩
          · intro x hx'
            cases hx'
            have := digitV_le s[i].toNat
            omega
          · exact even60 h73 m s i _ _ hl hdec (by omega) os ver (by omega) (by simp at hp; omega) (by simp at hp; omega)
        | some x =>
          obtain ⟨x0, x1⟩ := hx x rfl
          refine ⟨(i + 1, os ++ [(x + digitV s[i].toNat) % 256], none, ver), ⟨by show i + 1 ≤ _; omega, by simp at hp ⊢; omega, by simp⟩, by show s.length - (i + 1) < s.length - i; omega, by simp only; rw [hd, rbGo, if_neg hA], fun m => ?_⟩
          exact odd60 h73 m s i _ _ hl hdec (by omega) os x ver (by omega) (by simp at hp; omega) (by simp at hp; omega) x0 x1
    · right
      have hh := decodeHigh s i hl (by omega)
      cases hdec : Utf8.decode ⟨s.toArray⟩ i with
      | mk rn w =>
        rw [hdec] at hh
        simp only at hh
        intro m
        have hb : digitV s[i].toNat < 0 := by rw [digitV_high (by omega)]; decide
        rw [hd, bad60 h73 q m s i rn w hl hdec (by omega) _ ver (by rw [digitV_high (by omega)]; decide)]
        cases pend <;> simp [rbGo, hb]
theorem ev60 (hsp : X.spec 60 = none) (s : List UInt8) (hs : s.length ≤ 1000000000) : evCall X (s.length + 46) 60 [.str s] [] = some (rbV (rbGo s [] none), []) := by
  refine call_fin (nt := 42) (res := #[.tmp 2, .tmp 3]) hsp (fn_p Tryd.func60) shape60 rfl rfl ?_
  have hh := loop60 h73 (s.length + 23) s hs ⟨[.str s, .dead, .nilsl, .bool false, .nilsl, .dead, .dead, .dead, .str s, .iter 0] ++ List.replicate 32 .dead, [some (.iter s 0)]⟩ (by
    rw [S60_nil rfl]
    simp -implicitDefEqProofs [mapHd_some, hdS_mk, canonK_some, reach_nil, reach_cons, reachGo, clearTm, refsL, V.refs, Blk.refs, renL, V.ren, Blk.ren, indexOf, subHeap, Heap.get])
  unfold K60 at hh
  generalize fin X #[.tmp 2, .tmp 3] 60 0 = G at hh ⊢
  refine Eq.trans (congrArg G ?_) hh
  simp -implicitDefEqProofs [run_seq, run_then, run_then_ret, run_then_exit, run_region, run_regionK, run_cond, run_cond_true, run_cond_false, run_block, run_block_exit, run_block_ret, run_block_normal, evCode_exit, evCode_ret, evCode_skip, evRegion_seq, run_seqs, run_seqK, evSeq_zero, run_step, run_stepO, run_stepK_true, run_stepK_false, run_stepR, wantedV, evOp, evOpR, opd, putTm, putAll, ofValue, ofScalar, binV, intOp, unV, und_p, size_p, bytesOf_p, zeroV_p, aggT_p, size3, size5, size9, size22, size24, size25, size27, size28, size29, size31, size40, size42, size47, agg3, agg5, agg9, agg22, agg24, agg25, agg27, agg28, agg29, agg31, agg40, agg42, agg47, bytesOf3, bytesOf5, bytesOf9, bytesOf42, bytesOf47, zeroV3, zeroV5, zeroV9, zeroV24, zeroV27, zeroV31, zeroV42, zeroV47, Tryd.underlying3, Tryd.underlying5, Tryd.underlying9, Tryd.underlying22, Tryd.underlying24, Tryd.underlying27, Tryd.underlying28, Tryd.underlying29, Tryd.underlying31, Tryd.underlying40, Tryd.underlying42, Tryd.underlying47, Tryd.underlying51, Tryd.underlying61, Tryd.underlying78, wrapI64, builtinV, convV, len9, len_nil, len_slz, len_sl, len_msl, slT, minV, asI, asN, ce_int, ce_str, ce_bool, ce_agg, ce_msl, ce_sl, ce_nilsl, sc_int, sc_str, sc_bool, sc_msl, sc_sl, sc_nilsl, sc_slz, fillV, splice, Heap.put, Heap.get, appendV, srcCells, cellsOf, rowOf, zerosT, isIntT, isStr, maxBytes, indexAddrV, fieldAddrV, fieldOf, sliceV, storeAt, cellsAt, takeV, partV, nextV, strOp, cfst, csnd, mapHd_some, hdS_mk, canonK_some, reach_nil, reach_cons, reachGo, clearTm, refsL, V.refs, Blk.refs, renL, V.ren, Blk.ren, indexOf, subHeap, resultsR, leaveR_some, lastK_ret, lastK_exit, fin_ret, fin_normal, leave_int, leave_bool, leave_str, run_callV, ext_p, XR_x, mut_p, callA_tuple, callB_some, callC_some, resolve_go, resolveK_nil, resolveK_cons, mergeAt, freezeRows, freezeRow, V.msls, mslsL, V.deep, deepL, V.resolve1, V.flat, flatL, c17, c34, c47, c71, evRegion_draw, drawK_some, run_cons, run_traceK, run_trace, run_trace0, run_traceN, run_traceC, B60, Tryd.f60]
end
end Go.Ev
