/- A part of the proof of ReportBack (the second form: what is handed in is of bulk at most 1048576): no statement of the seat's stands here. -/
import Derived.Test.YtoppmjanignfdaaDoorRk
set_option linter.unusedSectionVars false
set_option linter.unusedSimpArgs false
set_option linter.unusedVariables false
set_option linter.all false
set_option linter.unusedVariables false
set_option linter.unusedSimpArgs false
set_option linter.unusedSectionVars false
set_option maxRecDepth 100000
set_option maxHeartbeats 4000000
namespace Go.Ev
open Go Go.Proofs
class Str (X : Ctx) : Prop extends Low X where
  n2 : ∀ f, f ∈ [19, 39, 51, 64, 69, 70] → X.spec f = none
def cutAt (c : UInt8) : List UInt8 → Option (List UInt8 × List UInt8)
  | [] => none
  | x :: r => if x = c then some ([], r) else (cutAt c r).map fun p => (x :: p.1, p.2)
def splitC (c : UInt8) : List UInt8 → List (List UInt8)
  | [] => [[]]
  | x :: r => if x = c then [] :: splitC c r else match splitC c r with
    | h :: t => (x :: h) :: t
    | [] => [[x]]
theorem cutAt_idx (c : UInt8) : ∀ (s : List UInt8) (i : Nat), idxOf c.toNat s i = match cutAt c s with
    | none => -1
    | some p => (i : Int) + p.1.length
  | [], i => rfl
  | x :: r, i => by
    unfold idxOf cutAt
    by_cases e : x = c
    · subst e; simp
    · have : ¬ x.toNat = c.toNat := fun h => e (UInt8.toNat_inj.1 h)
      rw [if_neg this, if_neg e, cutAt_idx c r (i + 1)]
      cases cutAt c r with
      | none => rfl
      | some p =>
        show ((i + 1 : Nat) : Int) + (p.1.length : Nat) = (i : Int) + ((x :: p.1).length : Nat)
        simp only [List.length_cons]
        omega
theorem cutAt_eq (c : UInt8) : ∀ (s : List UInt8) (p : List UInt8 × List UInt8), cutAt c s = some p → s = p.1 ++ c :: p.2
  | [], p, h => by cases h
  | x :: r, p, h => by
    unfold cutAt at h
    split at h
    · rename_i e; cases h; subst e; rfl
    · obtain ⟨q, h1, h2⟩ := Option.map_eq_some_iff.1 h
      subst h2
      simp [cutAt_eq c r q h1]
theorem splitC_ne (c : UInt8) : ∀ s : List UInt8, splitC c s ≠ []
  | [] => by simp [splitC]
  | x :: r => by
    unfold splitC
    split
    · simp
    · split <;> simp
theorem splitC_none (c : UInt8) : ∀ s : List UInt8, cutAt c s = none → splitC c s = [s]
  | [], _ => rfl
  | x :: r, h => by
    unfold cutAt at h
    unfold splitC
    split at h
    · cases h
    · rename_i e
      rw [if_neg e]
      have : cutAt c r = none := by simpa using h
      rw [splitC_none c r this]
theorem splitC_some (c : UInt8) : ∀ (s : List UInt8) (p : List UInt8 × List UInt8), cutAt c s = some p → splitC c s = p.1 :: splitC c p.2
  | [], p, h => by cases h
  | x :: r, p, h => by
    unfold cutAt at h
    rw [splitC]
    split at h
    · rename_i e; cases h; rw [if_pos e]
    · rename_i e
      obtain ⟨q, h1, h2⟩ := Option.map_eq_some_iff.1 h
      subst h2
      rw [if_neg e, splitC_some c r q h1]
theorem splitC_cnt (c : UInt8) : ∀ (s : List UInt8) (n : Nat), cntOf c.toNat s n + 1 = n + (splitC c s).length
  | [], n => rfl
  | x :: r, n => by
    unfold cntOf splitC
    by_cases e : x = c
    · subst e
      rw [if_pos rfl, if_pos rfl, splitC_cnt x r (n + 1)]
      simp; omega
    · have : ¬ x.toNat = c.toNat := fun h => e (UInt8.toNat_inj.1 h)
      rw [if_neg this, if_neg e, splitC_cnt c r n]
      have hne := splitC_ne c r
      cases h : splitC c r with
      | nil => exact absurd h hne
      | cons a b => simp
theorem splitC_len (c : UInt8) : ∀ s : List UInt8, (splitC c s).length ≤ s.length + 1
  | [] => by simp [splitC]
  | x :: r => by
    have := splitC_len c r
    unfold splitC
    split
    · simp; omega
    · have hne := splitC_ne c r
      cases h : splitC c r with
      | nil => simp
      | cons a b => rw [h] at this; simp at this ⊢; omega
theorem sameBytes_iff : ∀ a b : List UInt8, sameBytes a b = decide (a = b)
  | [], [] => rfl
  | [], _ :: _ => rfl
  | _ :: _, [] => rfl
  | x :: r, y :: t => by
    have e : (x.toNat == y.toNat) = decide (x = y) := by
      by_cases h : x = y
      · subst h; simp
      · have : ¬ x.toNat = y.toNat := fun h' => h (UInt8.toNat_inj.1 h')
        simp [h, this]
    simp only [sameBytes, e, sameBytes_iff r t]
    by_cases h : x = y <;> simp [h]
section
variable {X : Ctx} [h : Str X]
theorem str_fin {n : Nat} {f : FuncId} {fn : Func} {nt : Nat} {res : Array ResultVar} {c : Code} {args : List V} {r : V × Heap} (hs : f ∈ [19, 39, 51, 64, 69, 70]) (hf : Tryd.prog.funcs[f]? = some fn) (hb : fn.body = some c) (hn : fn.ntmps = nt) (hr : fn.results = res)
    (hc : fin X res f 0 (evCode X n f 0 c ⟨args ++ List.replicate (nt - args.length) .dead, []⟩) = some r) : callWith X (evCode X n) f args [] = some r :=
  call_fin (Str.n2 f hs) (fn_p hf) hb hn hr hc
theorem ext74 {call : CallFn} (as' : List V) (fresh : Nat → Nat) (H : Heap) : callV X call 74 as' fresh H = (exIndexByte as').map fun v => { v } := by
  have : X.ext 74 = some exIndexByte := (Prg.x 74).trans rfl
  unfold callV; rw [this]
theorem ext78 {call : CallFn} (as' : List V) (fresh : Nat → Nat) (H : Heap) : callV X call 78 as' fresh H = (exCountByte as').map fun v => { v } := by
  have : X.ext 78 = some exCountByte := (Prg.x 78).trans rfl
  unfold callV; rw [this]
theorem exI (s : List UInt8) (c : UInt8) : exIndexByte [.str s, .int .u8 c.toNat] = some (.int .i64 (idxOf c.toNat s 0)) := by
  have := c.toNat_lt
  simp [exIndexByte]
  omega
theorem exC (s : List UInt8) (c : UInt8) : exCountByte [.str s, .int .u8 c.toNat] = some (.int .i64 (cntOf c.toNat s 0 : Nat)) := by
  have := c.toNat_lt
  simp [exCountByte]
  omega
theorem c64 (m : Nat) (s : List UInt8) (c : UInt8) : callWith X (evCode X (m + 10)) 64 [.str s, .int .u8 c.toNat] [] = some (.int .i64 (idxOf c.toNat s 0), []) := by
  refine str_fin (nt := 8) (res := #[.tmp 4]) (by simp) Tryd.func64 (by rw [Tryd.f64]) rfl rfl ?_
  simp -implicitDefEqProofs [run_seq, run_then, run_then_ret, run_then_exit, run_region, run_regionK, run_cond, run_cond_true, run_cond_false, run_block, run_block_exit, run_block_ret, run_block_normal, evCode_exit, evCode_ret, evCode_skip, evRegion_seq, run_seqs, run_seqK, evSeq_zero, run_step, run_stepO, run_stepK_true, run_stepK_false, run_stepR, wantedV, evOp, evOpR, opd, putTm, putAll, ofValue, ofScalar, binV, intOp, unV, und_p, size_p, bytesOf_p, zeroV_p, aggT_p, size3, size5, size9, size22, size24, size25, size27, size28, size29, size31, size40, size42, size47, agg3, agg5, agg9, agg22, agg24, agg25, agg27, agg28, agg29, agg31, agg40, agg42, agg47, bytesOf3, bytesOf5, bytesOf9, bytesOf42, bytesOf47, zeroV3, zeroV5, zeroV9, zeroV24, zeroV27, zeroV31, zeroV42, zeroV47, Tryd.underlying3, Tryd.underlying5, Tryd.underlying9, Tryd.underlying22, Tryd.underlying24, Tryd.underlying27, Tryd.underlying28, Tryd.underlying29, Tryd.underlying31, Tryd.underlying40, Tryd.underlying42, Tryd.underlying47, Tryd.underlying51, Tryd.underlying61, Tryd.underlying78, wrapI64, builtinV, convV, len9, len_nil, len_slz, len_sl, len_msl, slT, minV, asI, asN, ce_int, ce_str, ce_bool, ce_agg, ce_msl, ce_sl, ce_nilsl, sc_int, sc_str, sc_bool, sc_msl, sc_sl, sc_nilsl, sc_slz, fillV, splice, Heap.put, Heap.get, appendV, srcCells, cellsOf, rowOf, zerosT, isIntT, isStr, maxBytes, indexAddrV, fieldAddrV, fieldOf, sliceV, storeAt, cellsAt, takeV, partV, nextV, strOp, cfst, csnd, mapHd_some, hdS_mk, canonK_some, reach_nil, reach_cons, reachGo, clearTm, refsL, V.refs, Blk.refs, renL, V.ren, Blk.ren, indexOf, subHeap, resultsR, leaveR_some, lastK_ret, lastK_exit, fin_ret, fin_normal, leave_int, leave_bool, leave_str, run_callV, ext_p, XR_x, mut_p, callA_tuple, callB_some, callC_some, resolve_go, resolveK_nil, resolveK_cons, mergeAt, freezeRows, freezeRow, V.msls, mslsL, V.deep, deepL, V.resolve1, V.flat, flatL, c17, c34, c47, c71, evRegion_draw, drawK_some, run_cons, run_traceK, run_trace, run_trace0, run_traceN, run_traceC, ext74, exI]
theorem c51 (m : Nat) (s : List UInt8) (c : UInt8) : callWith X (evCode X (m + 40)) 51 [.str s, .str [c]] [] = some (.int .i64 (idxOf c.toNat s 0), []) := by
  refine str_fin (nt := 143) (res := #[.tmp 4]) (by simp) Tryd.func51 (by rw [Tryd.f51]) rfl rfl ?_
  cases e : decide (s = [c])
  · have e2 : decide ([c] = s) = false := by simp at e ⊢; exact fun h => e h.symm
    simp -implicitDefEqProofs [run_seq, run_then, run_then_ret, run_then_exit, run_region, run_regionK, run_cond, run_cond_true, run_cond_false, run_block, run_block_exit, run_block_ret, run_block_normal, evCode_exit, evCode_ret, evCode_skip, evRegion_seq, run_seqs, run_seqK, evSeq_zero, run_step, run_stepO, run_stepK_true, run_stepK_false, run_stepR, wantedV, evOp, evOpR, opd, putTm, putAll, ofValue, ofScalar, binV, intOp, unV, und_p, size_p, bytesOf_p, zeroV_p, aggT_p, size3, size5, size9, size22, size24, size25, size27, size28, size29, size31, size40, size42, size47, agg3, agg5, agg9, agg22, agg24, agg25, agg27, agg28, agg29, agg31, agg40, agg42, agg47, bytesOf3, bytesOf5, bytesOf9, bytesOf42, bytesOf47, zeroV3, zeroV5, zeroV9, zeroV24, zeroV27, zeroV31, zeroV42, zeroV47, Tryd.underlying3, Tryd.underlying5, Tryd.underlying9, Tryd.underlying22, Tryd.underlying24, Tryd.underlying27, Tryd.underlying28, Tryd.underlying29, Tryd.underlying31, Tryd.underlying40, Tryd.underlying42, Tryd.underlying47, Tryd.underlying51, Tryd.underlying61, Tryd.underlying78, wrapI64, builtinV, convV, len9, len_nil, len_slz, len_sl, len_msl, slT, minV, asI, asN, ce_int, ce_str, ce_bool, ce_agg, ce_msl, ce_sl, ce_nilsl, sc_int, sc_str, sc_bool, sc_msl, sc_sl, sc_nilsl, sc_slz, fillV, splice, Heap.put, Heap.get, appendV, srcCells, cellsOf, rowOf, zerosT, isIntT, isStr, maxBytes, indexAddrV, fieldAddrV, fieldOf, sliceV, storeAt, cellsAt, takeV, partV, nextV, strOp, cfst, csnd, mapHd_some, hdS_mk, canonK_some, reach_nil, reach_cons, reachGo, clearTm, refsL, V.refs, Blk.refs, renL, V.ren, Blk.ren, indexOf, subHeap, resultsR, leaveR_some, lastK_ret, lastK_exit, fin_ret, fin_normal, leave_int, leave_bool, leave_str, run_callV, ext_p, XR_x, mut_p, callA_tuple, callB_some, callC_some, resolve_go, resolveK_nil, resolveK_cons, mergeAt, freezeRows, freezeRow, V.msls, mslsL, V.deep, deepL, V.resolve1, V.flat, flatL, c17, c34, c47, c71, evRegion_draw, drawK_some, run_cons, run_traceK, run_trace, run_trace0, run_traceN, run_traceC, sameBytes_iff, e, e2, c64]
  · have e1 : s = [c] := by simpa using e
    subst e1
    simp -implicitDefEqProofs [run_seq, run_then, run_then_ret, run_then_exit, run_region, run_regionK, run_cond, run_cond_true, run_cond_false, run_block, run_block_exit, run_block_ret, run_block_normal, evCode_exit, evCode_ret, evCode_skip, evRegion_seq, run_seqs, run_seqK, evSeq_zero, run_step, run_stepO, run_stepK_true, run_stepK_false, run_stepR, wantedV, evOp, evOpR, opd, putTm, putAll, ofValue, ofScalar, binV, intOp, unV, und_p, size_p, bytesOf_p, zeroV_p, aggT_p, size3, size5, size9, size22, size24, size25, size27, size28, size29, size31, size40, size42, size47, agg3, agg5, agg9, agg22, agg24, agg25, agg27, agg28, agg29, agg31, agg40, agg42, agg47, bytesOf3, bytesOf5, bytesOf9, bytesOf42, bytesOf47, zeroV3, zeroV5, zeroV9, zeroV24, zeroV27, zeroV31, zeroV42, zeroV47, Tryd.underlying3, Tryd.underlying5, Tryd.underlying9, Tryd.underlying22, Tryd.underlying24, Tryd.underlying27, Tryd.underlying28, Tryd.underlying29, Tryd.underlying31, Tryd.underlying40, Tryd.underlying42, Tryd.underlying47, Tryd.underlying51, Tryd.underlying61, Tryd.underlying78, wrapI64, builtinV, convV, len9, len_nil, len_slz, len_sl, len_msl, slT, minV, asI, asN, ce_int, ce_str, ce_bool, ce_agg, ce_msl, ce_sl, ce_nilsl, sc_int, sc_str, sc_bool, sc_msl, sc_sl, sc_nilsl, sc_slz, fillV, splice, Heap.put, Heap.get, appendV, srcCells, cellsOf, rowOf, zerosT, isIntT, isStr, maxBytes, indexAddrV, fieldAddrV, fieldOf, sliceV, storeAt, cellsAt, takeV, partV, nextV, strOp, cfst, csnd, mapHd_some, hdS_mk, canonK_some, reach_nil, reach_cons, reachGo, clearTm, refsL, V.refs, Blk.refs, renL, V.ren, Blk.ren, indexOf, subHeap, resultsR, leaveR_some, lastK_ret, lastK_exit, fin_ret, fin_normal, leave_int, leave_bool, leave_str, run_callV, ext_p, XR_x, mut_p, callA_tuple, callB_some, callC_some, resolve_go, resolveK_nil, resolveK_cons, mergeAt, freezeRows, freezeRow, V.msls, mslsL, V.deep, deepL, V.resolve1, V.flat, flatL, c17, c34, c47, c71, evRegion_draw, drawK_some, run_cons, run_traceK, run_trace, run_trace0, run_traceN, run_traceC, sameBytes_iff, idxOf]
theorem c70 (m : Nat) (s : List UInt8) (c : UInt8) : callWith X (evCode X (m + 50)) 70 [.str s, .str [c]] [] = some (.int .i64 (idxOf c.toNat s 0), []) := by
  refine str_fin (nt := 8) (res := #[.tmp 4]) (by simp) Tryd.func70 (by rw [Tryd.f70]) rfl rfl ?_
  simp -implicitDefEqProofs [run_seq, run_then, run_then_ret, run_then_exit, run_region, run_regionK, run_cond, run_cond_true, run_cond_false, run_block, run_block_exit, run_block_ret, run_block_normal, evCode_exit, evCode_ret, evCode_skip, evRegion_seq, run_seqs, run_seqK, evSeq_zero, run_step, run_stepO, run_stepK_true, run_stepK_false, run_stepR, wantedV, evOp, evOpR, opd, putTm, putAll, ofValue, ofScalar, binV, intOp, unV, und_p, size_p, bytesOf_p, zeroV_p, aggT_p, size3, size5, size9, size22, size24, size25, size27, size28, size29, size31, size40, size42, size47, agg3, agg5, agg9, agg22, agg24, agg25, agg27, agg28, agg29, agg31, agg40, agg42, agg47, bytesOf3, bytesOf5, bytesOf9, bytesOf42, bytesOf47, zeroV3, zeroV5, zeroV9, zeroV24, zeroV27, zeroV31, zeroV42, zeroV47, Tryd.underlying3, Tryd.underlying5, Tryd.underlying9, Tryd.underlying22, Tryd.underlying24, Tryd.underlying27, Tryd.underlying28, Tryd.underlying29, Tryd.underlying31, Tryd.underlying40, Tryd.underlying42, Tryd.underlying47, Tryd.underlying51, Tryd.underlying61, Tryd.underlying78, wrapI64, builtinV, convV, len9, len_nil, len_slz, len_sl, len_msl, slT, minV, asI, asN, ce_int, ce_str, ce_bool, ce_agg, ce_msl, ce_sl, ce_nilsl, sc_int, sc_str, sc_bool, sc_msl, sc_sl, sc_nilsl, sc_slz, fillV, splice, Heap.put, Heap.get, appendV, srcCells, cellsOf, rowOf, zerosT, isIntT, isStr, maxBytes, indexAddrV, fieldAddrV, fieldOf, sliceV, storeAt, cellsAt, takeV, partV, nextV, strOp, cfst, csnd, mapHd_some, hdS_mk, canonK_some, reach_nil, reach_cons, reachGo, clearTm, refsL, V.refs, Blk.refs, renL, V.ren, Blk.ren, indexOf, subHeap, resultsR, leaveR_some, lastK_ret, lastK_exit, fin_ret, fin_normal, leave_int, leave_bool, leave_str, run_callV, ext_p, XR_x, mut_p, callA_tuple, callB_some, callC_some, resolve_go, resolveK_nil, resolveK_cons, mergeAt, freezeRows, freezeRow, V.msls, mslsL, V.deep, deepL, V.resolve1, V.flat, flatL, c17, c34, c47, c71, evRegion_draw, drawK_some, run_cons, run_traceK, run_trace, run_trace0, run_traceN, run_traceC, c51]
theorem c69 (m : Nat) (s : List UInt8) (c : UInt8) : callWith X (evCode X (m + 50)) 69 [.str s, .str [c]] [] = some (.int .i64 (cntOf c.toNat s 0 : Nat), []) := by
  refine str_fin (nt := 34) (res := #[.tmp 4]) (by simp) Tryd.func69 (by rw [Tryd.f69]) rfl rfl ?_
  simp -implicitDefEqProofs [run_seq, run_then, run_then_ret, run_then_exit, run_region, run_regionK, run_cond, run_cond_true, run_cond_false, run_block, run_block_exit, run_block_ret, run_block_normal, evCode_exit, evCode_ret, evCode_skip, evRegion_seq, run_seqs, run_seqK, evSeq_zero, run_step, run_stepO, run_stepK_true, run_stepK_false, run_stepR, wantedV, evOp, evOpR, opd, putTm, putAll, ofValue, ofScalar, binV, intOp, unV, und_p, size_p, bytesOf_p, zeroV_p, aggT_p, size3, size5, size9, size22, size24, size25, size27, size28, size29, size31, size40, size42, size47, agg3, agg5, agg9, agg22, agg24, agg25, agg27, agg28, agg29, agg31, agg40, agg42, agg47, bytesOf3, bytesOf5, bytesOf9, bytesOf42, bytesOf47, zeroV3, zeroV5, zeroV9, zeroV24, zeroV27, zeroV31, zeroV42, zeroV47, Tryd.underlying3, Tryd.underlying5, Tryd.underlying9, Tryd.underlying22, Tryd.underlying24, Tryd.underlying27, Tryd.underlying28, Tryd.underlying29, Tryd.underlying31, Tryd.underlying40, Tryd.underlying42, Tryd.underlying47, Tryd.underlying51, Tryd.underlying61, Tryd.underlying78, wrapI64, builtinV, convV, len9, len_nil, len_slz, len_sl, len_msl, slT, minV, asI, asN, ce_int, ce_str, ce_bool, ce_agg, ce_msl, ce_sl, ce_nilsl, sc_int, sc_str, sc_bool, sc_msl, sc_sl, sc_nilsl, sc_slz, fillV, splice, Heap.put, Heap.get, appendV, srcCells, cellsOf, rowOf, zerosT, isIntT, isStr, maxBytes, indexAddrV, fieldAddrV, fieldOf, sliceV, storeAt, cellsAt, takeV, partV, nextV, strOp, cfst, csnd, mapHd_some, hdS_mk, canonK_some, reach_nil, reach_cons, reachGo, clearTm, refsL, V.refs, Blk.refs, renL, V.ren, Blk.ren, indexOf, subHeap, resultsR, leaveR_some, lastK_ret, lastK_exit, fin_ret, fin_normal, leave_int, leave_bool, leave_str, run_callV, ext_p, XR_x, mut_p, callA_tuple, callB_some, callC_some, resolve_go, resolveK_nil, resolveK_cons, mergeAt, freezeRows, freezeRow, V.msls, mslsL, V.deep, deepL, V.resolve1, V.flat, flatL, c17, c34, c47, c71, evRegion_draw, drawK_some, run_cons, run_traceK, run_trace, run_trace0, run_traceN, run_traceC, ext78, exC]
end
end Go.Ev
set_option linter.unusedVariables false
set_option linter.unusedSimpArgs false
set_option linter.unusedSectionVars false
set_option maxRecDepth 100000
set_option maxHeartbeats 4000000
namespace Go.Ev
open Go Go.Proofs
def cutV (s : List UInt8) : Option (List UInt8 × List UInt8) → V
  | none => .tuple [.str s, .str [], .bool false]
  | some p => .tuple [.str p.1, .str p.2, .bool true]
theorem leave_cut {X : Ctx} {f : FuncId} (a b : List UInt8) (c : Bool) (H : Heap) : leave X f 0 (.tuple [.str a, .str b, .bool c]) H = (.tuple [.str a, .str b, .bool c], []) :=
  leave_pure (by simp [V.msls, mslsL]) (by simp [V.refs, refsL]) H
section
variable {X : Ctx} [h : Str X]
theorem c39 (m : Nat) (s : List UInt8) (c : UInt8) (hs : s.length ≤ 1000000000) : callWith X (evCode X (m + 60)) 39 [.str s, .str [c]] [] = some (cutV s (cutAt c s), []) := by
  refine str_fin (nt := 23) (res := #[.tmp 4, .tmp 5, .tmp 6]) (by simp) Tryd.func39 (by rw [Tryd.f39]) rfl rfl ?_
  have hidx := cutAt_idx c s 0
  cases e : cutAt c s with
  | none =>
    rw [e] at hidx
    simp -implicitDefEqProofs [run_seq, run_then, run_then_ret, run_then_exit, run_region, run_regionK, run_cond, run_cond_true, run_cond_false, run_block, run_block_exit, run_block_ret, run_block_normal, evCode_exit, evCode_ret, evCode_skip, evRegion_seq, run_seqs, run_seqK, evSeq_zero, run_step, run_stepO, run_stepK_true, run_stepK_false, run_stepR, wantedV, evOp, evOpR, opd, putTm, putAll, ofValue, ofScalar, binV, intOp, unV, und_p, size_p, bytesOf_p, zeroV_p, aggT_p, size3, size5, size9, size22, size24, size25, size27, size28, size29, size31, size40, size42, size47, agg3, agg5, agg9, agg22, agg24, agg25, agg27, agg28, agg29, agg31, agg40, agg42, agg47, bytesOf3, bytesOf5, bytesOf9, bytesOf42, bytesOf47, zeroV3, zeroV5, zeroV9, zeroV24, zeroV27, zeroV31, zeroV42, zeroV47, Tryd.underlying3, Tryd.underlying5, Tryd.underlying9, Tryd.underlying22, Tryd.underlying24, Tryd.underlying27, Tryd.underlying28, Tryd.underlying29, Tryd.underlying31, Tryd.underlying40, Tryd.underlying42, Tryd.underlying47, Tryd.underlying51, Tryd.underlying61, Tryd.underlying78, wrapI64, builtinV, convV, len9, len_nil, len_slz, len_sl, len_msl, slT, minV, asI, asN, ce_int, ce_str, ce_bool, ce_agg, ce_msl, ce_sl, ce_nilsl, sc_int, sc_str, sc_bool, sc_msl, sc_sl, sc_nilsl, sc_slz, fillV, splice, Heap.put, Heap.get, appendV, srcCells, cellsOf, rowOf, zerosT, isIntT, isStr, maxBytes, indexAddrV, fieldAddrV, fieldOf, sliceV, storeAt, cellsAt, takeV, partV, nextV, strOp, cfst, csnd, mapHd_some, hdS_mk, canonK_some, reach_nil, reach_cons, reachGo, clearTm, refsL, V.refs, Blk.refs, renL, V.ren, Blk.ren, indexOf, subHeap, resultsR, leaveR_some, lastK_ret, lastK_exit, fin_ret, fin_normal, leave_int, leave_bool, leave_str, run_callV, ext_p, XR_x, mut_p, callA_tuple, callB_some, callC_some, resolve_go, resolveK_nil, resolveK_cons, mergeAt, freezeRows, freezeRow, V.msls, mslsL, V.deep, deepL, V.resolve1, V.flat, flatL, c17, c34, c47, c71, evRegion_draw, drawK_some, run_cons, run_traceK, run_trace, run_trace0, run_traceN, run_traceC, c51, hidx, cutV, leave_cut]
  | some p =>
    rw [e] at hidx
    have he := cutAt_eq c s p e
    obtain ⟨a, b⟩ := p
    simp only at hidx he
    have hidx' : idxOf c.toNat s 0 = (a.length : Int) := by rw [hidx]; simp
    have hl : s.length = a.length + (b.length + 1) := by rw [he]; simp
    have w1 : IntKind.i64.wrap ((a.length : Int) + 1) = ((a.length + 1 : Nat) : Int) := by rw [wrapI64 (by omega) (by omega)]; rfl
    have t1 : s.take a.length = a := by rw [he]; simp
    have t2 : s.drop (a.length + 1) = b := by rw [he]; simp
    have g1 : a.length ≤ s.length := by omega
    have g2 : a.length + 1 ≤ s.length := by omega
    have t3 : b.take (s.length - (a.length + 1)) = b := List.take_of_length_le (by omega)
    have g0 : (0 : Int) ≤ (a.length : Int) + 1 := by omega
    have g3 : ((a.length : Int) + 1).toNat = a.length + 1 := by omega
    simp -implicitDefEqProofs [run_seq, run_then, run_then_ret, run_then_exit, run_region, run_regionK, run_cond, run_cond_true, run_cond_false, run_block, run_block_exit, run_block_ret, run_block_normal, evCode_exit, evCode_ret, evCode_skip, evRegion_seq, run_seqs, run_seqK, evSeq_zero, run_step, run_stepO, run_stepK_true, run_stepK_false, run_stepR, wantedV, evOp, evOpR, opd, putTm, putAll, ofValue, ofScalar, binV, intOp, unV, und_p, size_p, bytesOf_p, zeroV_p, aggT_p, size3, size5, size9, size22, size24, size25, size27, size28, size29, size31, size40, size42, size47, agg3, agg5, agg9, agg22, agg24, agg25, agg27, agg28, agg29, agg31, agg40, agg42, agg47, bytesOf3, bytesOf5, bytesOf9, bytesOf42, bytesOf47, zeroV3, zeroV5, zeroV9, zeroV24, zeroV27, zeroV31, zeroV42, zeroV47, Tryd.underlying3, Tryd.underlying5, Tryd.underlying9, Tryd.underlying22, Tryd.underlying24, Tryd.underlying27, Tryd.underlying28, Tryd.underlying29, Tryd.underlying31, Tryd.underlying40, Tryd.underlying42, Tryd.underlying47, Tryd.underlying51, Tryd.underlying61, Tryd.underlying78, wrapI64, builtinV, convV, len9, len_nil, len_slz, len_sl, len_msl, slT, minV, asI, asN, ce_int, ce_str, ce_bool, ce_agg, ce_msl, ce_sl, ce_nilsl, sc_int, sc_str, sc_bool, sc_msl, sc_sl, sc_nilsl, sc_slz, fillV, splice, Heap.put, Heap.get, appendV, srcCells, cellsOf, rowOf, zerosT, isIntT, isStr, maxBytes, indexAddrV, fieldAddrV, fieldOf, sliceV, storeAt, cellsAt, takeV, partV, nextV, strOp, cfst, csnd, mapHd_some, hdS_mk, canonK_some, reach_nil, reach_cons, reachGo, clearTm, refsL, V.refs, Blk.refs, renL, V.ren, Blk.ren, indexOf, subHeap, resultsR, leaveR_some, lastK_ret, lastK_exit, fin_ret, fin_normal, leave_int, leave_bool, leave_str, run_callV, ext_p, XR_x, mut_p, callA_tuple, callB_some, callC_some, resolve_go, resolveK_nil, resolveK_cons, mergeAt, freezeRows, freezeRow, V.msls, mslsL, V.deep, deepL, V.resolve1, V.flat, flatL, c17, c34, c47, c71, evRegion_draw, drawK_some, run_cons, run_traceK, run_trace, run_trace0, run_traceN, run_traceC, c51, hidx', cutV, leave_cut, w1, t1, t2, t3, g0, g1, g2, g3]
    rw [if_pos]
    rotate_left
    · kernel_rfl
    · simp -implicitDefEqProofs [run_seq, run_then, run_then_ret, run_then_exit, run_region, run_regionK, run_cond, run_cond_true, run_cond_false, run_block, run_block_exit, run_block_ret, run_block_normal, evCode_exit, evCode_ret, evCode_skip, evRegion_seq, run_seqs, run_seqK, evSeq_zero, run_step, run_stepO, run_stepK_true, run_stepK_false, run_stepR, wantedV, evOp, evOpR, opd, putTm, putAll, ofValue, ofScalar, binV, intOp, unV, und_p, size_p, bytesOf_p, zeroV_p, aggT_p, size3, size5, size9, size22, size24, size25, size27, size28, size29, size31, size40, size42, size47, agg3, agg5, agg9, agg22, agg24, agg25, agg27, agg28, agg29, agg31, agg40, agg42, agg47, bytesOf3, bytesOf5, bytesOf9, bytesOf42, bytesOf47, zeroV3, zeroV5, zeroV9, zeroV24, zeroV27, zeroV31, zeroV42, zeroV47, Tryd.underlying3, Tryd.underlying5, Tryd.underlying9, Tryd.underlying22, Tryd.underlying24, Tryd.underlying27, Tryd.underlying28, Tryd.underlying29, Tryd.underlying31, Tryd.underlying40, Tryd.underlying42, Tryd.underlying47, Tryd.underlying51, Tryd.underlying61, Tryd.underlying78, wrapI64, builtinV, convV, len9, len_nil, len_slz, len_sl, len_msl, slT, minV, asI, asN, ce_int, ce_str, ce_bool, ce_agg, ce_msl, ce_sl, ce_nilsl, sc_int, sc_str, sc_bool, sc_msl, sc_sl, sc_nilsl, sc_slz, fillV, splice, Heap.put, Heap.get, appendV, srcCells, cellsOf, rowOf, zerosT, isIntT, isStr, maxBytes, indexAddrV, fieldAddrV, fieldOf, sliceV, storeAt, cellsAt, takeV, partV, nextV, strOp, cfst, csnd, mapHd_some, hdS_mk, canonK_some, reach_nil, reach_cons, reachGo, clearTm, refsL, V.refs, Blk.refs, renL, V.ren, Blk.ren, indexOf, subHeap, resultsR, leaveR_some, lastK_ret, lastK_exit, fin_ret, fin_normal, leave_int, leave_bool, leave_str, run_callV, ext_p, XR_x, mut_p, callA_tuple, callB_some, callC_some, resolve_go, resolveK_nil, resolveK_cons, mergeAt, freezeRows, freezeRow, V.msls, mslsL, V.deep, deepL, V.resolve1, V.flat, flatL, c17, c34, c47, c71, evRegion_draw, drawK_some, run_cons, run_traceK, run_trace, run_trace0, run_traceN, run_traceC, leave_cut]
theorem c19 (m : Nat) (s : List UInt8) (c : UInt8) (hs : s.length ≤ 1000000000) : callWith X (evCode X (m + 70)) 19 [.str s, .str [c]] [] = some (cutV s (cutAt c s), []) := by
  refine str_fin (nt := 13) (res := #[.tmp 4, .tmp 5, .tmp 6]) (by simp) Tryd.func19 (by rw [Tryd.f19]) rfl rfl ?_
  have h1 := fun m => c39 (X := X) m s c hs
  cases e : cutAt c s with
  | none =>
    rw [e] at h1
    unfold cutV at h1 ⊢
    simp -implicitDefEqProofs [run_seq, run_then, run_then_ret, run_then_exit, run_region, run_regionK, run_cond, run_cond_true, run_cond_false, run_block, run_block_exit, run_block_ret, run_block_normal, evCode_exit, evCode_ret, evCode_skip, evRegion_seq, run_seqs, run_seqK, evSeq_zero, run_step, run_stepO, run_stepK_true, run_stepK_false, run_stepR, wantedV, evOp, evOpR, opd, putTm, putAll, ofValue, ofScalar, binV, intOp, unV, und_p, size_p, bytesOf_p, zeroV_p, aggT_p, size3, size5, size9, size22, size24, size25, size27, size28, size29, size31, size40, size42, size47, agg3, agg5, agg9, agg22, agg24, agg25, agg27, agg28, agg29, agg31, agg40, agg42, agg47, bytesOf3, bytesOf5, bytesOf9, bytesOf42, bytesOf47, zeroV3, zeroV5, zeroV9, zeroV24, zeroV27, zeroV31, zeroV42, zeroV47, Tryd.underlying3, Tryd.underlying5, Tryd.underlying9, Tryd.underlying22, Tryd.underlying24, Tryd.underlying27, Tryd.underlying28, Tryd.underlying29, Tryd.underlying31, Tryd.underlying40, Tryd.underlying42, Tryd.underlying47, Tryd.underlying51, Tryd.underlying61, Tryd.underlying78, wrapI64, builtinV, convV, len9, len_nil, len_slz, len_sl, len_msl, slT, minV, asI, asN, ce_int, ce_str, ce_bool, ce_agg, ce_msl, ce_sl, ce_nilsl, sc_int, sc_str, sc_bool, sc_msl, sc_sl, sc_nilsl, sc_slz, fillV, splice, Heap.put, Heap.get, appendV, srcCells, cellsOf, rowOf, zerosT, isIntT, isStr, maxBytes, indexAddrV, fieldAddrV, fieldOf, sliceV, storeAt, cellsAt, takeV, partV, nextV, strOp, cfst, csnd, mapHd_some, hdS_mk, canonK_some, reach_nil, reach_cons, reachGo, clearTm, refsL, V.refs, Blk.refs, renL, V.ren, Blk.ren, indexOf, subHeap, resultsR, leaveR_some, lastK_ret, lastK_exit, fin_ret, fin_normal, leave_int, leave_bool, leave_str, run_callV, ext_p, XR_x, mut_p, callA_tuple, callB_some, callC_some, resolve_go, resolveK_nil, resolveK_cons, mergeAt, freezeRows, freezeRow, V.msls, mslsL, V.deep, deepL, V.resolve1, V.flat, flatL, c17, c34, c47, c71, evRegion_draw, drawK_some, run_cons, run_traceK, run_trace, run_trace0, run_traceN, run_traceC, h1, leave_cut]
  | some p =>
    rw [e] at h1
    unfold cutV at h1 ⊢
    simp -implicitDefEqProofs [run_seq, run_then, run_then_ret, run_then_exit, run_region, run_regionK, run_cond, run_cond_true, run_cond_false, run_block, run_block_exit, run_block_ret, run_block_normal, evCode_exit, evCode_ret, evCode_skip, evRegion_seq, run_seqs, run_seqK, evSeq_zero, run_step, run_stepO, run_stepK_true, run_stepK_false, run_stepR, wantedV, evOp, evOpR, opd, putTm, putAll, ofValue, ofScalar, binV, intOp, unV, und_p, size_p, bytesOf_p, zeroV_p, aggT_p, size3, size5, size9, size22, size24, size25, size27, size28, size29, size31, size40, size42, size47, agg3, agg5, agg9, agg22, agg24, agg25, agg27, agg28, agg29, agg31, agg40, agg42, agg47, bytesOf3, bytesOf5, bytesOf9, bytesOf42, bytesOf47, zeroV3, zeroV5, zeroV9, zeroV24, zeroV27, zeroV31, zeroV42, zeroV47, Tryd.underlying3, Tryd.underlying5, Tryd.underlying9, Tryd.underlying22, Tryd.underlying24, Tryd.underlying27, Tryd.underlying28, Tryd.underlying29, Tryd.underlying31, Tryd.underlying40, Tryd.underlying42, Tryd.underlying47, Tryd.underlying51, Tryd.underlying61, Tryd.underlying78, wrapI64, builtinV, convV, len9, len_nil, len_slz, len_sl, len_msl, slT, minV, asI, asN, ce_int, ce_str, ce_bool, ce_agg, ce_msl, ce_sl, ce_nilsl, sc_int, sc_str, sc_bool, sc_msl, sc_sl, sc_nilsl, sc_slz, fillV, splice, Heap.put, Heap.get, appendV, srcCells, cellsOf, rowOf, zerosT, isIntT, isStr, maxBytes, indexAddrV, fieldAddrV, fieldOf, sliceV, storeAt, cellsAt, takeV, partV, nextV, strOp, cfst, csnd, mapHd_some, hdS_mk, canonK_some, reach_nil, reach_cons, reachGo, clearTm, refsL, V.refs, Blk.refs, renL, V.ren, Blk.ren, indexOf, subHeap, resultsR, leaveR_some, lastK_ret, lastK_exit, fin_ret, fin_normal, leave_int, leave_bool, leave_str, run_callV, ext_p, XR_x, mut_p, callA_tuple, callB_some, callC_some, resolve_go, resolveK_nil, resolveK_cons, mergeAt, freezeRows, freezeRow, V.msls, mslsL, V.deep, deepL, V.resolve1, V.flat, flatL, c17, c34, c47, c71, evRegion_draw, drawK_some, run_cons, run_traceK, run_trace, run_trace0, run_traceN, run_traceC, h1, leave_cut]
end
noncomputable def B52 : Code := Tryd.f52.body.getD .skip
noncomputable def B52r : Code := csnd (csnd (csnd (csnd (csnd (csnd (csnd (csnd B52)))))))
noncomputable def L52 : Code := cfst (cfst (cfst B52r))
noncomputable def R52 : Code := csnd B52r
theorem shape52 : Tryd.f52.body = some (.seq (cfst B52) (.seq (cfst (csnd B52)) (.seq (cfst (csnd (csnd B52))) (.seq (cfst (csnd (csnd (csnd B52)))) (.seq (cfst (csnd (csnd (csnd (csnd B52))))) (.seq (cfst (csnd (csnd (csnd (csnd (csnd B52)))))) (.seq (cfst (csnd (csnd (csnd (csnd (csnd (csnd B52))))))) (.seq (cfst (csnd (csnd (csnd (csnd (csnd (csnd (csnd B52)))))))) (.seq (.block 0 (.loop L52)) R52))))))))) := by kernel_rfl
/-- genSplit's state: the text, what is left of it, how many parts there are, what is split off. -/
def S52 (s0 : List UInt8) (c : UInt8) (N : Nat) (rest : List UInt8) (done : List (List UInt8)) : St :=
  ⟨[.str rest, .str [c], .int .i64 0, .int .i64 ((N : Int) - 1), .dead, .dead, .dead, .dead, .nilsl, .msl 0 0 0 1 N, .int .i64 done.length, .dead, .int .i64 (-1), .bool false, .str [c], .bool false, .dead, .dead, .dead, .int .i64 (-1), .bool true, .str s0, .str [c], .int .i64 ((N : Int) - 1), .int .i64 N,
    .int .i64 N, .str s0, .int .i64 s0.length, .int .i64 (s0.length + 1), .int .i64 N, .int .i64 N, .msl 0 0 0 1 N, .int .i64 N, .int .i64 ((N : Int) - 1)] ++ List.replicate 32 .dead, [some (.row (strsV done ++ List.replicate (N - done.length) (.str [])) true 0)]⟩
section
variable {X : Ctx} [h : Str X]
theorem clears52 : clears (X.keepSlots 52) L52 = [57, 56, 55, 54, 53, 52, 51, 50, 49, 48, 47, 46, 45, 44, 43, 42, 41, 40, 11, 39, 38, 37, 36, 35, 34] := by rw [Prg.l]; kernel_rfl
noncomputable def K52 (X : Ctx) (q : Nat) (o : Option (Ex × St)) : Option (V × Heap) := fin X #[.tmp 8] 52 0 (thenK X (q + 20) 52 0 R52 (blockK 0 o))
theorem strs_rep (done : List (List UInt8)) (k : Nat) : (strsV done ++ List.replicate (k + 1) (V.str [])).take done.length = strsV done ∧ (strsV done ++ List.replicate (k + 1) (V.str [])).drop (done.length + 1) = List.replicate k (V.str []) ∧ (strsV done ++ List.replicate (k + 1) (V.str [])).length = done.length + (k + 1) := by
  have hl : (strsV done).length = done.length := by simp [strsV]
  refine ⟨List.take_left' hl, ?_, by simp [hl]⟩
  rw [← List.drop_drop, List.drop_left' hl]
  rfl
theorem next52 (m : Nat) (s0 : List UInt8) (c : UInt8) (k : Nat) (rest : List UInt8) (done : List (List UInt8)) (a b : List UInt8) (hcut : cutAt c rest = some (a, b)) (hr : rest.length ≤ 1000000000) (hN : done.length + (k + 2) ≤ 1000000001) :
    mapHd [57, 56, 55, 54, 53, 52, 51, 50, 49, 48, 47, 46, 45, 44, 43, 42, 41, 40, 11, 39, 38, 37, 36, 35, 34] (evCode X (m + 70) 52 0 L52 (S52 s0 c (done.length + (k + 2)) rest done)) = some (.normal, S52 s0 c (done.length + (k + 2)) b (done ++ [a])) := by
  have hidx := cutAt_idx c rest 0
  rw [hcut] at hidx
  have he := cutAt_eq c rest _ hcut
  simp only at hidx he
  have hidx' : idxOf c.toNat rest 0 = (a.length : Int) := by rw [hidx]; simp
  have hl : rest.length = a.length + (b.length + 1) := by rw [he]; simp
  have w0 : IntKind.i64.wrap (a.length : Int) = (a.length : Int) := wrapI64 (by omega) (by omega)
  have w1 : IntKind.i64.wrap ((a.length : Int) + 1) = ((a.length + 1 : Nat) : Int) := by rw [wrapI64 (by omega) (by omega)]; rfl
  have w2 : IntKind.i64.wrap ((done.length : Int) + 1) = ((done.length + 1 : Nat) : Int) := by rw [wrapI64 (by omega) (by omega)]; rfl
  have t1 : rest.take a.length = a := by rw [he]; simp
  have t2 : rest.drop (a.length + 1) = b := by rw [he]; simp
  have t3 : b.take (rest.length - (a.length + 1)) = b := List.take_of_length_le (by omega)
  have g1 : a.length ≤ rest.length := by omega
  have g2 : a.length + 1 ≤ rest.length := by omega
  have g0 : (0 : Int) ≤ (a.length : Int) + 1 := by omega
  have g3 : ((a.length : Int) + 1).toNat = a.length + 1 := by omega
  have g6 : ¬ (a.length : Int) < 0 := by omega
  have g4 : (done.length : Int) < (done.length : Int) + ((k : Int) + 2) - 1 := by omega
  have g5 : (done.length : Int) < (done.length : Int) + ((k : Int) + 2) := by omega
  have e1 : done.length + (k + 2) - done.length = k + 1 + 1 := by omega
  have e2 : done.length + (k + 2) - (done.length + 1) = k + 1 := by omega
  obtain ⟨u1, u2, u3⟩ := strs_rep done (k + 1)
  have n1 : refsL (List.replicate (k + 1) (V.str [])) = [] := by
    have := refsL_strs (List.replicate (k + 1) [])
    simpa [strsV] using this
  have n2 : ∀ f, renL f (List.replicate (k + 1) (V.str [])) = List.replicate (k + 1) (V.str []) := fun f => renL_id f _ n1
  unfold S52
  rw [e1, show done.length + (k + 2) - (done ++ [a]).length = k + 1 from by simp; omega]
  simp -implicitDefEqProofs [run_seq, run_then, run_then_ret, run_then_exit, run_region, run_regionK, run_cond, run_cond_true, run_cond_false, run_block, run_block_exit, run_block_ret, run_block_normal, evCode_exit, evCode_ret, evCode_skip, evRegion_seq, run_seqs, run_seqK, evSeq_zero, run_step, run_stepO, run_stepK_true, run_stepK_false, run_stepR, wantedV, evOp, evOpR, opd, putTm, putAll, ofValue, ofScalar, binV, intOp, unV, und_p, size_p, bytesOf_p, zeroV_p, aggT_p, size3, size5, size9, size22, size24, size25, size27, size28, size29, size31, size40, size42, size47, agg3, agg5, agg9, agg22, agg24, agg25, agg27, agg28, agg29, agg31, agg40, agg42, agg47, bytesOf3, bytesOf5, bytesOf9, bytesOf42, bytesOf47, zeroV3, zeroV5, zeroV9, zeroV24, zeroV27, zeroV31, zeroV42, zeroV47, Tryd.underlying3, Tryd.underlying5, Tryd.underlying9, Tryd.underlying22, Tryd.underlying24, Tryd.underlying27, Tryd.underlying28, Tryd.underlying29, Tryd.underlying31, Tryd.underlying40, Tryd.underlying42, Tryd.underlying47, Tryd.underlying51, Tryd.underlying61, Tryd.underlying78, wrapI64, builtinV, convV, len9, len_nil, len_slz, len_sl, len_msl, slT, minV, asI, asN, ce_int, ce_str, ce_bool, ce_agg, ce_msl, ce_sl, ce_nilsl, sc_int, sc_str, sc_bool, sc_msl, sc_sl, sc_nilsl, sc_slz, fillV, splice, Heap.put, Heap.get, appendV, srcCells, cellsOf, rowOf, zerosT, isIntT, isStr, maxBytes, indexAddrV, fieldAddrV, fieldOf, sliceV, storeAt, cellsAt, takeV, partV, nextV, strOp, cfst, csnd, mapHd_some, hdS_mk, canonK_some, reach_nil, reach_cons, reachGo, clearTm, refsL, V.refs, Blk.refs, renL, V.ren, Blk.ren, indexOf, subHeap, resultsR, leaveR_some, lastK_ret, lastK_exit, fin_ret, fin_normal, leave_int, leave_bool, leave_str, run_callV, ext_p, XR_x, mut_p, callA_tuple, callB_some, callC_some, resolve_go, resolveK_nil, resolveK_cons, mergeAt, freezeRows, freezeRow, V.msls, mslsL, V.deep, deepL, V.resolve1, V.flat, flatL, c17, c34, c47, c71, evRegion_draw, drawK_some, run_cons, run_traceK, run_trace, run_trace0, run_traceN, run_traceC, L52, B52r, B52, Tryd.f52, c70, hidx', w0, w1, w2, t1, t2, t3, g0, g1, g2, g3, g4, g5, g6, u1, u2, u3, n1, n2, refsL_app', renL_app', refsL_strs, renL_strs, strsV_snoc]
end
end Go.Ev
set_option linter.unusedVariables false
set_option linter.unusedSimpArgs false
set_option linter.unusedSectionVars false
set_option maxRecDepth 100000
set_option maxHeartbeats 4000000
namespace Go.Ev
open Go Go.Proofs
section
variable {X : Ctx} [h : Str X]
theorem end52 (q m : Nat) (s0 : List UInt8) (c : UInt8) (rest : List UInt8) (done : List (List UInt8)) (hN : done.length ≤ 1000000001) :
    lastK (K52 X q) (evCode X (m + 70) 52 0 L52 (S52 s0 c (done.length + 1) rest done)) = some (.sl 1 (done.length + 1) (strsV (done ++ [rest])), []) := by
  have w2 : IntKind.i64.wrap ((done.length : Int) + 1) = ((done.length + 1 : Nat) : Int) := by rw [wrapI64 (by omega) (by omega)]; rfl
  have g5 : (done.length : Int) < (done.length : Int) + 1 := by omega
  have g0 : (0 : Int) ≤ (done.length : Int) + 1 := by omega
  have g3 : ((done.length : Int) + 1).toNat = done.length + 1 := by omega
  have e1 : done.length + 1 - done.length = 0 + 1 := by omega
  obtain ⟨u1, u2, u3⟩ := strs_rep done 0
  have hl : (strsV done).length = done.length := strsV_len done
  have v1 : ∀ v : V, (strsV done ++ [v]).take done.length = strsV done := fun v => List.take_left' hl
  have v2 : ∀ v : V, (strsV done ++ [v]).drop (done.length + 1) = [] := fun v => List.drop_of_length_le (by simp [hl])
  have v3 : ∀ v : V, (strsV done ++ [v]).take (done.length + 1) = strsV done ++ [v] := fun v => List.take_of_length_le (by simp [hl])
  unfold S52
  rw [e1]
  simp -implicitDefEqProofs [run_seq, run_then, run_then_ret, run_then_exit, run_region, run_regionK, run_cond, run_cond_true, run_cond_false, run_block, run_block_exit, run_block_ret, run_block_normal, evCode_exit, evCode_ret, evCode_skip, evRegion_seq, run_seqs, run_seqK, evSeq_zero, run_step, run_stepO, run_stepK_true, run_stepK_false, run_stepR, wantedV, evOp, evOpR, opd, putTm, putAll, ofValue, ofScalar, binV, intOp, unV, und_p, size_p, bytesOf_p, zeroV_p, aggT_p, size3, size5, size9, size22, size24, size25, size27, size28, size29, size31, size40, size42, size47, agg3, agg5, agg9, agg22, agg24, agg25, agg27, agg28, agg29, agg31, agg40, agg42, agg47, bytesOf3, bytesOf5, bytesOf9, bytesOf42, bytesOf47, zeroV3, zeroV5, zeroV9, zeroV24, zeroV27, zeroV31, zeroV42, zeroV47, Tryd.underlying3, Tryd.underlying5, Tryd.underlying9, Tryd.underlying22, Tryd.underlying24, Tryd.underlying27, Tryd.underlying28, Tryd.underlying29, Tryd.underlying31, Tryd.underlying40, Tryd.underlying42, Tryd.underlying47, Tryd.underlying51, Tryd.underlying61, Tryd.underlying78, wrapI64, builtinV, convV, len9, len_nil, len_slz, len_sl, len_msl, slT, minV, asI, asN, ce_int, ce_str, ce_bool, ce_agg, ce_msl, ce_sl, ce_nilsl, sc_int, sc_str, sc_bool, sc_msl, sc_sl, sc_nilsl, sc_slz, fillV, splice, Heap.put, Heap.get, appendV, srcCells, cellsOf, rowOf, zerosT, isIntT, isStr, maxBytes, indexAddrV, fieldAddrV, fieldOf, sliceV, storeAt, cellsAt, takeV, partV, nextV, strOp, cfst, csnd, mapHd_some, hdS_mk, canonK_some, reach_nil, reach_cons, reachGo, clearTm, refsL, V.refs, Blk.refs, renL, V.ren, Blk.ren, indexOf, subHeap, resultsR, leaveR_some, lastK_ret, lastK_exit, fin_ret, fin_normal, leave_int, leave_bool, leave_str, run_callV, ext_p, XR_x, mut_p, callA_tuple, callB_some, callC_some, resolve_go, resolveK_nil, resolveK_cons, mergeAt, freezeRows, freezeRow, V.msls, mslsL, V.deep, deepL, V.resolve1, V.flat, flatL, c17, c34, c47, c71, evRegion_draw, drawK_some, run_cons, run_traceK, run_trace, run_trace0, run_traceN, run_traceC, K52, R52, L52, B52r, B52, Tryd.f52, w2, g0, g3, g5, u1, u2, u3, v1, v2, v3, hl, refsL_app', renL_app', mslsL_app', refsL_strs, mslsL_strs, renL_strs, strsV_snoc, leave_go, leaveK_pure]
theorem loop52 (q : Nat) (s0 : List UInt8) (c : UInt8) (hs : s0.length ≤ 1000000000) (k : Nat) (hk : s0.length ≤ k) (st : St)
    (hst : hdS [57, 56, 55, 54, 53, 52, 51, 50, 49, 48, 47, 46, 45, 44, 43, 42, 41, 40, 11, 39, 38, 37, 36, 35, 34] st = S52 s0 c (splitC c s0).length s0 []) :
    K52 X q (evCode X (k + 70 + 1) 52 0 (.loop L52) st) = some (.sl 1 (splitC c s0).length (strsV (splitC c s0)), []) := by
  refine loop_run (clears52 (X := X)) (fun a : List UInt8 × List (List UInt8) => S52 s0 c (splitC c s0).length a.1 a.2) (fun a => a.2 ++ splitC c a.1 = splitC c s0 ∧ a.1.length ≤ s0.length) (fun a => a.1.length)
    (fun _ => (.sl 1 (splitC c s0).length (strsV (splitC c s0)), [])) (K52 X q) 70 ?_ k (s0, []) st hk ⟨rfl, Nat.le_refl _⟩ hst
  rintro ⟨rest, done⟩ ⟨hi, hl⟩
  simp only at hi hl ⊢
  have hlen := splitC_len c s0
  cases e : cutAt c rest with
  | none =>
    right
    intro m
    rw [splitC_none c rest e] at hi
    rw [← hi]
    have hd : (done ++ [rest]).length = done.length + 1 := by simp
    rw [hd]
    rw [← hi, hd] at hlen
    exact end52 q m s0 c rest done (by omega)
  | some p =>
    left
    obtain ⟨a, b⟩ := p
    have hsp := splitC_some c rest _ e
    have he := cutAt_eq c rest _ e
    simp only at hsp he
    have hr : rest.length = a.length + (b.length + 1) := by rw [he]; simp
    have hne := splitC_ne c b
    obtain ⟨k', hk'⟩ : ∃ k', (splitC c b).length = k' + 1 := ⟨(splitC c b).length - 1, by have := List.length_pos_iff.2 hne; omega⟩
    have hN : (splitC c s0).length = done.length + (k' + 2) := by rw [← hi, hsp]; simp [hk']
    refine ⟨(b, done ++ [a]), ⟨?_, ?_⟩, ?_, trivial, fun m => ?_⟩
    · show (done ++ [a]) ++ splitC c b = _
      rw [← hi, hsp, List.append_assoc]; rfl
    · show b.length ≤ _; omega
    · show b.length < rest.length; omega
    · show mapHd _ (evCode X (m + 70) 52 0 L52 (S52 s0 c (splitC c s0).length rest done)) = some (.normal, S52 s0 c (splitC c s0).length b (done ++ [a]))
      rw [hN]
      exact next52 m s0 c k' rest done a b e (by omega) (by omega)
theorem ev52 (hsp : X.spec 52 = none) (s : List UInt8) (c : UInt8) (hs : s.length ≤ 1000000000) : callWith X (evCode X (s.length + 90)) 52 [.str s, .str [c], .int .i64 0, .int .i64 (-1)] [] = some (.sl 1 (splitC c s).length (strsV (splitC c s)), []) := by
  refine call_fin (nt := 66) (res := #[.tmp 8]) hsp (fn_p Tryd.func52) shape52 rfl rfl ?_
  have hcnt := splitC_cnt c s 0
  have hlen := splitC_len c s
  have h69 := fun m => c69 (X := X) m s c
  have hh := loop52 (X := X) (s.length + 61) s c hs (s.length + 9) (by omega)
  generalize hR : splitC c s = R at *
  generalize cntOf c.toNat s 0 = cnt at *
  have hRl : R.length = cnt + 1 := by omega
  rw [hRl] at hh
  have w1 : IntKind.i64.wrap ((cnt : Int) + 1) = ((cnt + 1 : Nat) : Int) := by rw [wrapI64 (by omega) (by omega)]; rfl
  have w2 : IntKind.i64.wrap ((s.length : Int) + 1) = ((s.length + 1 : Nat) : Int) := by rw [wrapI64 (by omega) (by omega)]; rfl
  have w3 : IntKind.i64.wrap (cnt : Int) = (cnt : Int) := wrapI64 (by omega) (by omega)
  have g1 : ¬ (s.length < cnt) := by omega
  have g2 : (0 : Int) ≤ (cnt : Int) + 1 := by omega
  have g3 : ((cnt : Int) + 1).toNat = cnt + 1 := by omega
  have g4 : (cnt + 1) * 16 ≤ 70368744177664 := by omega
  have g5 : (cnt : Int) + 1 ≤ 70368744177664 := by omega
  have g6 : ¬ ((cnt : Int) + 1 = 0) := by omega
  unfold K52 at hh
  generalize fin X #[.tmp 8] 52 0 = G at hh ⊢
  rw [hRl]
  simp -implicitDefEqProofs [run_seq, run_then, run_then_ret, run_then_exit, run_region, run_regionK, run_cond, run_cond_true, run_cond_false, run_block, run_block_exit, run_block_ret, run_block_normal, evCode_exit, evCode_ret, evCode_skip, evRegion_seq, run_seqs, run_seqK, evSeq_zero, run_step, run_stepO, run_stepK_true, run_stepK_false, run_stepR, wantedV, evOp, evOpR, opd, putTm, putAll, ofValue, ofScalar, binV, intOp, unV, und_p, size_p, bytesOf_p, zeroV_p, aggT_p, size3, size5, size9, size22, size24, size25, size27, size28, size29, size31, size40, size42, size47, agg3, agg5, agg9, agg22, agg24, agg25, agg27, agg28, agg29, agg31, agg40, agg42, agg47, bytesOf3, bytesOf5, bytesOf9, bytesOf42, bytesOf47, zeroV3, zeroV5, zeroV9, zeroV24, zeroV27, zeroV31, zeroV42, zeroV47, Tryd.underlying3, Tryd.underlying5, Tryd.underlying9, Tryd.underlying22, Tryd.underlying24, Tryd.underlying27, Tryd.underlying28, Tryd.underlying29, Tryd.underlying31, Tryd.underlying40, Tryd.underlying42, Tryd.underlying47, Tryd.underlying51, Tryd.underlying61, Tryd.underlying78, wrapI64, builtinV, convV, len9, len_nil, len_slz, len_sl, len_msl, slT, minV, asI, asN, ce_int, ce_str, ce_bool, ce_agg, ce_msl, ce_sl, ce_nilsl, sc_int, sc_str, sc_bool, sc_msl, sc_sl, sc_nilsl, sc_slz, fillV, splice, Heap.put, Heap.get, appendV, srcCells, cellsOf, rowOf, zerosT, isIntT, isStr, maxBytes, indexAddrV, fieldAddrV, fieldOf, sliceV, storeAt, cellsAt, takeV, partV, nextV, strOp, cfst, csnd, mapHd_some, hdS_mk, canonK_some, reach_nil, reach_cons, reachGo, clearTm, refsL, V.refs, Blk.refs, renL, V.ren, Blk.ren, indexOf, subHeap, resultsR, leaveR_some, lastK_ret, lastK_exit, fin_ret, fin_normal, leave_int, leave_bool, leave_str, run_callV, ext_p, XR_x, mut_p, callA_tuple, callB_some, callC_some, resolve_go, resolveK_nil, resolveK_cons, mergeAt, freezeRows, freezeRow, V.msls, mslsL, V.deep, deepL, V.resolve1, V.flat, flatL, c17, c34, c47, c71, evRegion_draw, drawK_some, run_cons, run_traceK, run_trace, run_trace0, run_traceN, run_traceC, B52r, B52, Tryd.f52, h69, w1, w2, w3, g1, g2, g3, g4, g5, g6, sameBytes]
  refine hh _ ?_
  have n1 : refsL (List.replicate (cnt + 1) (V.str [])) = [] := by
    have := refsL_strs (List.replicate (cnt + 1) [])
    simpa [strsV] using this
  simp -implicitDefEqProofs [mapHd_some, hdS_mk, canonK_some, reach_nil, reach_cons, reachGo, clearTm, refsL, V.refs, Blk.refs, renL, V.ren, Blk.ren, indexOf, subHeap, Heap.get, S52, strsV, n1]
theorem ev40 (hsp : X.spec 40 = none) (hsp2 : X.spec 52 = none) (s : List UInt8) (c : UInt8) (hs : s.length ≤ 1000000000) : evCall X (s.length + 93) 40 [.str s, .str [c]] [] = some (.sl 1 (splitC c s).length (strsV (splitC c s)), []) := by
  refine call_fin (nt := 8) (res := #[.tmp 4]) hsp (fn_p Tryd.func40) (by rw [Tryd.f40]) rfl rfl ?_
  have h52 := ev52 (X := X) hsp2 s c hs
  simp -implicitDefEqProofs [run_seq, run_then, run_then_ret, run_then_exit, run_region, run_regionK, run_cond, run_cond_true, run_cond_false, run_block, run_block_exit, run_block_ret, run_block_normal, evCode_exit, evCode_ret, evCode_skip, evRegion_seq, run_seqs, run_seqK, evSeq_zero, run_step, run_stepO, run_stepK_true, run_stepK_false, run_stepR, wantedV, evOp, evOpR, opd, putTm, putAll, ofValue, ofScalar, binV, intOp, unV, und_p, size_p, bytesOf_p, zeroV_p, aggT_p, size3, size5, size9, size22, size24, size25, size27, size28, size29, size31, size40, size42, size47, agg3, agg5, agg9, agg22, agg24, agg25, agg27, agg28, agg29, agg31, agg40, agg42, agg47, bytesOf3, bytesOf5, bytesOf9, bytesOf42, bytesOf47, zeroV3, zeroV5, zeroV9, zeroV24, zeroV27, zeroV31, zeroV42, zeroV47, Tryd.underlying3, Tryd.underlying5, Tryd.underlying9, Tryd.underlying22, Tryd.underlying24, Tryd.underlying27, Tryd.underlying28, Tryd.underlying29, Tryd.underlying31, Tryd.underlying40, Tryd.underlying42, Tryd.underlying47, Tryd.underlying51, Tryd.underlying61, Tryd.underlying78, wrapI64, builtinV, convV, len9, len_nil, len_slz, len_sl, len_msl, slT, minV, asI, asN, ce_int, ce_str, ce_bool, ce_agg, ce_msl, ce_sl, ce_nilsl, sc_int, sc_str, sc_bool, sc_msl, sc_sl, sc_nilsl, sc_slz, fillV, splice, Heap.put, Heap.get, appendV, srcCells, cellsOf, rowOf, zerosT, isIntT, isStr, maxBytes, indexAddrV, fieldAddrV, fieldOf, sliceV, storeAt, cellsAt, takeV, partV, nextV, strOp, cfst, csnd, mapHd_some, hdS_mk, canonK_some, reach_nil, reach_cons, reachGo, clearTm, refsL, V.refs, Blk.refs, renL, V.ren, Blk.ren, indexOf, subHeap, resultsR, leaveR_some, lastK_ret, lastK_exit, fin_ret, fin_normal, leave_int, leave_bool, leave_str, run_callV, ext_p, XR_x, mut_p, callA_tuple, callB_some, callC_some, resolve_go, resolveK_nil, resolveK_cons, mergeAt, freezeRows, freezeRow, V.msls, mslsL, V.deep, deepL, V.resolve1, V.flat, flatL, c17, c34, c47, c71, evRegion_draw, drawK_some, run_cons, run_traceK, run_trace, run_trace0, run_traceN, run_traceC, h52, refsL_strs, renL_strs, mslsL_strs, leave_go, leaveK_pure]
end
end Go.Ev
