/- A part of the proof of ReportBack (the second form: what is handed in is of bulk at most 1048576): no statement of the seat's stands here. -/
import Derived.Test.YtoppmjanignfdaaDoorRm
set_option linter.unusedSectionVars false
set_option linter.unusedSimpArgs false
set_option linter.unusedVariables false
set_option linter.all false
set_option linter.unusedVariables false
set_option linter.unusedSimpArgs false
set_option linter.unusedSectionVars false
set_option maxRecDepth 100000
set_option maxHeartbeats 4000000
namespace Go.Ev
open Go Go.Proofs
def sV (b : Nat) (r : Rep) : V := if r.short = [] then .nilsl else .msl (b + 1) (r.short.length - 1) 0 3 r.short.length
def cV (b : Nat) (r : Rep) : V := if r.cells = [] then .nilsl else .msl (if r.short = [] then b + 1 else b + 2) (r.cells.length - 1) 0 3 r.cells.length
def aggR (b : Nat) (r : Rep) : List V := [.int .i64 r.k, .int .i64 r.a, .int .i64 r.fa, .int .i64 r.fe, .nilsl, .int .i64 r.items, sV b r, cV b r]
def rowS (r : Rep) : Heap := if r.short = [] then [] else [some (.row (itemsV r.short) true (r.short.length - 1))]
def rowC (r : Rep) : Heap := if r.cells = [] then [] else [some (.row (cellsV r.cells) true (r.cells.length - 1))]
/-- The heap of a report that is being read. -/
def HR (r : Rep) : Heap := some (.row (aggR 0 r) true 0) :: (rowS r ++ rowC r)
theorem c40' {rec : FuncId → Nat → Code → St → Option (Ex × St)} (args : List V) (H : Heap) : callWith X10 rec 40 args H = F40 args H := call_hook rfl _ _
theorem c41' {rec : FuncId → Nat → Code → St → Option (Ex × St)} (args : List V) (H : Heap) : callWith X10 rec 41 args H = F41 args H := call_hook rfl _ _
theorem c60' {rec : FuncId → Nat → Code → St → Option (Ex × St)} (args : List V) (H : Heap) : callWith X10 rec 60 args H = F60 args H := call_hook rfl _ _
theorem F41_strs (l : List (List UInt8)) (want : Int) (hl : l.length ≤ 1000000000) : F41 [.sl 1 l.length (strsV l), .int .i64 want] [] = some (numsV want (numsGo l []), []) := by
  simp [F41, strsOf_strs, hl]
def canonPK (p : Nat) (tm : List V) (H : Heap) : Option (List Nat) → List V × Heap
  | none => (tm, H)
  | some l0 => canonPL tm H (List.range p ++ l0.filter (fun b => decide (p ≤ b)))
where canonPL (tm : List V) (H : Heap) (l : List Nat) : List V × Heap := if H.length = l.length && l == List.range l.length then (tm, H) else (renL (indexOf · l 0) tm, subHeap H l)
theorem canon_P (p : Nat) (tm : List V) (H : Heap) : canon p tm H = canonPK p tm H (reach H (List.range p ++ refsL tm)) := by
  unfold canon canonPK canonPK.canonPL
  simp only
  cases reach H (List.range p ++ refsL tm) <;> rfl
theorem canonPK_some (p : Nat) (tm : List V) (H : Heap) (l0 : List Nat) : canonPK p tm H (some l0) = canonPK.canonPL tm H (List.range p ++ l0.filter (fun b => decide (p ≤ b))) := rfl
/-- What a frame leaves behind that answers yes or no. -/
def leaveB (b : Bool) : List V × Heap → V × Heap
  | (_, H') => (.bool b, H')
theorem leave_yn (f : FuncId) (p : Nat) (b : Bool) (H : Heap) : leave X10 f p (.bool b) H = leaveB b (canon p [.bool b] H) := by
  have : resolve H 6 (.bool b) = (.bool b, []) := by
    unfold resolve; simp [V.msls]
  unfold leave leaveB
  rw [show X10.keepRes f = false from rfl]
  simp only [Bool.false_eq_true, if_false, this, freezeRows, List.foldl_nil]
  unfold canon
  simp only
  cases reach H (List.range p ++ refsL [V.bool b]) with
  | none => rfl
  | some l =>
    simp only
    generalize (List.range p ++ List.filter (fun b => decide (p ≤ b)) l) = L
    cases hc : (decide (H.length = L.length) && L == List.range L.length)
    · simp [renL, V.ren]
    · simp
theorem leaveB_mk (b : Bool) (tm : List V) (H : Heap) : leaveB b (tm, H) = (.bool b, H) := rfl
theorem top_fin {n : Nat} {f : FuncId} {fn : Func} {nt : Nat} {res : Array ResultVar} {c : Code} {args : List V} {H : Heap} {r : V × Heap} (hs : X10.spec f = none) (hf : Tryd.prog.funcs[f]? = some fn) (hb : fn.body = some c) (hn : fn.ntmps = nt) (hr : fn.results = res)
    (hc : fin X10 res f H.length (evCode X10 n f H.length c ⟨args ++ List.replicate (nt - args.length) .dead, H⟩) = some r) : callWith X10 (evCode X10 n) f args H = some r := by
  rw [call_fn hs (fn_p hf) hb hn hr]
  exact hc
theorem rng1 : List.range 1 = [0] := rfl
theorem rng2 : List.range 2 = [0, 1] := rfl
theorem rng3 : List.range 3 = [0, 1, 2] := rfl
theorem rng4 : List.range 4 = [0, 1, 2, 3] := rfl
theorem rng5 : List.range 5 = [0, 1, 2, 3, 4] := rfl
theorem rng6 : List.range 6 = [0, 1, 2, 3, 4, 5] := rfl
/-- The four shapes of a report's heap. -/
theorem HR_nn {r : Rep} (h1 : r.short = []) (h2 : r.cells = []) : HR r = [some (.row [.int .i64 r.k, .int .i64 r.a, .int .i64 r.fa, .int .i64 r.fe, .nilsl, .int .i64 r.items, .nilsl, .nilsl] true 0)] := by
  simp [HR, rowS, rowC, aggR, sV, cV, h1, h2]
theorem HR_sn {r : Rep} (h1 : r.short ≠ []) (h2 : r.cells = []) : HR r = [some (.row [.int .i64 r.k, .int .i64 r.a, .int .i64 r.fa, .int .i64 r.fe, .nilsl, .int .i64 r.items, .msl 1 (r.short.length - 1) 0 3 r.short.length, .nilsl] true 0), some (.row (itemsV r.short) true (r.short.length - 1))] := by
  simp [HR, rowS, rowC, aggR, sV, cV, h1, h2]
theorem HR_nc {r : Rep} (h1 : r.short = []) (h2 : r.cells ≠ []) : HR r = [some (.row [.int .i64 r.k, .int .i64 r.a, .int .i64 r.fa, .int .i64 r.fe, .nilsl, .int .i64 r.items, .nilsl, .msl 1 (r.cells.length - 1) 0 3 r.cells.length] true 0), some (.row (cellsV r.cells) true (r.cells.length - 1))] := by
  simp [HR, rowS, rowC, aggR, sV, cV, h1, h2]
theorem HR_sc {r : Rep} (h1 : r.short ≠ []) (h2 : r.cells ≠ []) : HR r = [some (.row [.int .i64 r.k, .int .i64 r.a, .int .i64 r.fa, .int .i64 r.fe, .nilsl, .int .i64 r.items, .msl 1 (r.short.length - 1) 0 3 r.short.length, .msl 2 (r.cells.length - 1) 0 3 r.cells.length] true 0), some (.row (itemsV r.short) true (r.short.length - 1)), some (.row (cellsV r.cells) true (r.cells.length - 1))] := by
  simp [HR, rowS, rowC, aggR, sV, cV, h1, h2]
def RepOk (r : Rep) : Prop := (∀ i ∈ r.short, i.ok) ∧ r.short.length ≤ 1999999 ∧ r.cells.length ≤ 1999999
/- accept -/
theorem c54 (m : Nat) (r : Rep) (hr : RepOk r) (l : List (List UInt8)) : callWith X10 (evCode X10 (m + 40)) 54 [.ptr 0 0 0, .sl 1 l.length (strsV l)] (HR r) = some (.bool (decide (l = [])), HR { r with k := 1 }) := by
  obtain ⟨hi, hs, hc⟩ := hr
  obtain ⟨f1, f2, f3⟩ := itemsV_flat r.short hi
  obtain ⟨d1, d2, d3⟩ := cellsV_flat r.cells
  have e : decide (l.length = 0) = decide (l = []) := by cases l <;> simp
  refine top_fin (nt := 12) (res := #[.tmp 4]) rfl Tryd.func54 (by rw [Tryd.f54]) rfl rfl ?_
  by_cases h1 : r.short = []
  · by_cases h2 : r.cells = []
    · rw [HR_nn h1 h2, HR_nn (r := { r with k := 1 }) h1 h2]
      simp -implicitDefEqProofs [run_seq, run_then, run_then_ret, run_then_exit, run_region, run_regionK, run_cond, run_cond_true, run_cond_false, run_block, run_block_exit, run_block_ret, run_block_normal, evCode_exit, evCode_ret, evCode_skip, evRegion_seq, run_seqs, run_seqK, evSeq_zero, run_step, run_stepO, run_stepK_true, run_stepK_false, run_stepR, wantedV, evOp, evOpR, opd, putTm, putAll, ofValue, ofScalar, binV, intOp, unV, und_p, size_p, bytesOf_p, zeroV_p, aggT_p, size3, size5, size9, size22, size24, size25, size27, size28, size29, size31, size40, size42, size47, agg3, agg5, agg9, agg22, agg24, agg25, agg27, agg28, agg29, agg31, agg40, agg42, agg47, bytesOf3, bytesOf5, bytesOf9, bytesOf42, bytesOf47, zeroV3, zeroV5, zeroV9, zeroV24, zeroV27, zeroV31, zeroV42, zeroV47, Tryd.underlying3, Tryd.underlying5, Tryd.underlying9, Tryd.underlying22, Tryd.underlying24, Tryd.underlying27, Tryd.underlying28, Tryd.underlying29, Tryd.underlying31, Tryd.underlying40, Tryd.underlying42, Tryd.underlying47, Tryd.underlying51, Tryd.underlying61, Tryd.underlying78, wrapI64, builtinV, convV, len9, len_nil, len_slz, len_sl, len_msl, slT, minV, asI, asN, ce_int, ce_str, ce_bool, ce_agg, ce_msl, ce_sl, ce_nilsl, sc_int, sc_str, sc_bool, sc_msl, sc_sl, sc_nilsl, sc_slz, fillV, splice, Heap.put, Heap.get, appendV, srcCells, cellsOf, rowOf, zerosT, isIntT, isStr, maxBytes, indexAddrV, fieldAddrV, fieldOf, sliceV, storeAt, cellsAt, takeV, partV, nextV, strOp, cfst, csnd, mapHd_some, hdS_mk, canonK_some, reach_nil, reach_cons, reachGo, clearTm, refsL, V.refs, Blk.refs, renL, V.ren, Blk.ren, indexOf, subHeap, resultsR, leaveR_some, lastK_ret, lastK_exit, fin_ret, fin_normal, leave_int, leave_bool, leave_str, run_callV, ext_p, XR_x, mut_p, callA_tuple, callB_some, callC_some, resolve_go, resolveK_nil, resolveK_cons, mergeAt, freezeRows, freezeRow, V.msls, mslsL, V.deep, deepL, V.resolve1, V.flat, flatL, c17, c34, c47, c71, evRegion_draw, drawK_some, run_cons, run_traceK, run_trace, run_trace0, run_traceN, run_traceC, leave_yn, canon_P, canonPK_some, canonPK.canonPL, leaveB_mk, rng1, rng2, rng3, rng4, rng5, rng6, refsL_strs]
    · rw [HR_nc h1 h2, HR_nc (r := { r with k := 1 }) h1 h2]
      simp -implicitDefEqProofs [run_seq, run_then, run_then_ret, run_then_exit, run_region, run_regionK, run_cond, run_cond_true, run_cond_false, run_block, run_block_exit, run_block_ret, run_block_normal, evCode_exit, evCode_ret, evCode_skip, evRegion_seq, run_seqs, run_seqK, evSeq_zero, run_step, run_stepO, run_stepK_true, run_stepK_false, run_stepR, wantedV, evOp, evOpR, opd, putTm, putAll, ofValue, ofScalar, binV, intOp, unV, und_p, size_p, bytesOf_p, zeroV_p, aggT_p, size3, size5, size9, size22, size24, size25, size27, size28, size29, size31, size40, size42, size47, agg3, agg5, agg9, agg22, agg24, agg25, agg27, agg28, agg29, agg31, agg40, agg42, agg47, bytesOf3, bytesOf5, bytesOf9, bytesOf42, bytesOf47, zeroV3, zeroV5, zeroV9, zeroV24, zeroV27, zeroV31, zeroV42, zeroV47, Tryd.underlying3, Tryd.underlying5, Tryd.underlying9, Tryd.underlying22, Tryd.underlying24, Tryd.underlying27, Tryd.underlying28, Tryd.underlying29, Tryd.underlying31, Tryd.underlying40, Tryd.underlying42, Tryd.underlying47, Tryd.underlying51, Tryd.underlying61, Tryd.underlying78, wrapI64, builtinV, convV, len9, len_nil, len_slz, len_sl, len_msl, slT, minV, asI, asN, ce_int, ce_str, ce_bool, ce_agg, ce_msl, ce_sl, ce_nilsl, sc_int, sc_str, sc_bool, sc_msl, sc_sl, sc_nilsl, sc_slz, fillV, splice, Heap.put, Heap.get, appendV, srcCells, cellsOf, rowOf, zerosT, isIntT, isStr, maxBytes, indexAddrV, fieldAddrV, fieldOf, sliceV, storeAt, cellsAt, takeV, partV, nextV, strOp, cfst, csnd, mapHd_some, hdS_mk, canonK_some, reach_nil, reach_cons, reachGo, clearTm, refsL, V.refs, Blk.refs, renL, V.ren, Blk.ren, indexOf, subHeap, resultsR, leaveR_some, lastK_ret, lastK_exit, fin_ret, fin_normal, leave_int, leave_bool, leave_str, run_callV, ext_p, XR_x, mut_p, callA_tuple, callB_some, callC_some, resolve_go, resolveK_nil, resolveK_cons, mergeAt, freezeRows, freezeRow, V.msls, mslsL, V.deep, deepL, V.resolve1, V.flat, flatL, c17, c34, c47, c71, evRegion_draw, drawK_some, run_cons, run_traceK, run_trace, run_trace0, run_traceN, run_traceC, leave_yn, canon_P, canonPK_some, canonPK.canonPL, leaveB_mk, rng1, rng2, rng3, rng4, rng5, rng6, refsL_strs, d2]
  · by_cases h2 : r.cells = []
    · rw [HR_sn h1 h2, HR_sn (r := { r with k := 1 }) h1 h2]
      simp -implicitDefEqProofs [run_seq, run_then, run_then_ret, run_then_exit, run_region, run_regionK, run_cond, run_cond_true, run_cond_false, run_block, run_block_exit, run_block_ret, run_block_normal, evCode_exit, evCode_ret, evCode_skip, evRegion_seq, run_seqs, run_seqK, evSeq_zero, run_step, run_stepO, run_stepK_true, run_stepK_false, run_stepR, wantedV, evOp, evOpR, opd, putTm, putAll, ofValue, ofScalar, binV, intOp, unV, und_p, size_p, bytesOf_p, zeroV_p, aggT_p, size3, size5, size9, size22, size24, size25, size27, size28, size29, size31, size40, size42, size47, agg3, agg5, agg9, agg22, agg24, agg25, agg27, agg28, agg29, agg31, agg40, agg42, agg47, bytesOf3, bytesOf5, bytesOf9, bytesOf42, bytesOf47, zeroV3, zeroV5, zeroV9, zeroV24, zeroV27, zeroV31, zeroV42, zeroV47, Tryd.underlying3, Tryd.underlying5, Tryd.underlying9, Tryd.underlying22, Tryd.underlying24, Tryd.underlying27, Tryd.underlying28, Tryd.underlying29, Tryd.underlying31, Tryd.underlying40, Tryd.underlying42, Tryd.underlying47, Tryd.underlying51, Tryd.underlying61, Tryd.underlying78, wrapI64, builtinV, convV, len9, len_nil, len_slz, len_sl, len_msl, slT, minV, asI, asN, ce_int, ce_str, ce_bool, ce_agg, ce_msl, ce_sl, ce_nilsl, sc_int, sc_str, sc_bool, sc_msl, sc_sl, sc_nilsl, sc_slz, fillV, splice, Heap.put, Heap.get, appendV, srcCells, cellsOf, rowOf, zerosT, isIntT, isStr, maxBytes, indexAddrV, fieldAddrV, fieldOf, sliceV, storeAt, cellsAt, takeV, partV, nextV, strOp, cfst, csnd, mapHd_some, hdS_mk, canonK_some, reach_nil, reach_cons, reachGo, clearTm, refsL, V.refs, Blk.refs, renL, V.ren, Blk.ren, indexOf, subHeap, resultsR, leaveR_some, lastK_ret, lastK_exit, fin_ret, fin_normal, leave_int, leave_bool, leave_str, run_callV, ext_p, XR_x, mut_p, callA_tuple, callB_some, callC_some, resolve_go, resolveK_nil, resolveK_cons, mergeAt, freezeRows, freezeRow, V.msls, mslsL, V.deep, deepL, V.resolve1, V.flat, flatL, c17, c34, c47, c71, evRegion_draw, drawK_some, run_cons, run_traceK, run_trace, run_trace0, run_traceN, run_traceC, leave_yn, canon_P, canonPK_some, canonPK.canonPL, leaveB_mk, rng1, rng2, rng3, rng4, rng5, rng6, refsL_strs, f2]
    · rw [HR_sc h1 h2, HR_sc (r := { r with k := 1 }) h1 h2]
      simp -implicitDefEqProofs [run_seq, run_then, run_then_ret, run_then_exit, run_region, run_regionK, run_cond, run_cond_true, run_cond_false, run_block, run_block_exit, run_block_ret, run_block_normal, evCode_exit, evCode_ret, evCode_skip, evRegion_seq, run_seqs, run_seqK, evSeq_zero, run_step, run_stepO, run_stepK_true, run_stepK_false, run_stepR, wantedV, evOp, evOpR, opd, putTm, putAll, ofValue, ofScalar, binV, intOp, unV, und_p, size_p, bytesOf_p, zeroV_p, aggT_p, size3, size5, size9, size22, size24, size25, size27, size28, size29, size31, size40, size42, size47, agg3, agg5, agg9, agg22, agg24, agg25, agg27, agg28, agg29, agg31, agg40, agg42, agg47, bytesOf3, bytesOf5, bytesOf9, bytesOf42, bytesOf47, zeroV3, zeroV5, zeroV9, zeroV24, zeroV27, zeroV31, zeroV42, zeroV47, Tryd.underlying3, Tryd.underlying5, Tryd.underlying9, Tryd.underlying22, Tryd.underlying24, Tryd.underlying27, Tryd.underlying28, Tryd.underlying29, Tryd.underlying31, Tryd.underlying40, Tryd.underlying42, Tryd.underlying47, Tryd.underlying51, Tryd.underlying61, Tryd.underlying78, wrapI64, builtinV, convV, len9, len_nil, len_slz, len_sl, len_msl, slT, minV, asI, asN, ce_int, ce_str, ce_bool, ce_agg, ce_msl, ce_sl, ce_nilsl, sc_int, sc_str, sc_bool, sc_msl, sc_sl, sc_nilsl, sc_slz, fillV, splice, Heap.put, Heap.get, appendV, srcCells, cellsOf, rowOf, zerosT, isIntT, isStr, maxBytes, indexAddrV, fieldAddrV, fieldOf, sliceV, storeAt, cellsAt, takeV, partV, nextV, strOp, cfst, csnd, mapHd_some, hdS_mk, canonK_some, reach_nil, reach_cons, reachGo, clearTm, refsL, V.refs, Blk.refs, renL, V.ren, Blk.ren, indexOf, subHeap, resultsR, leaveR_some, lastK_ret, lastK_exit, fin_ret, fin_normal, leave_int, leave_bool, leave_str, run_callV, ext_p, XR_x, mut_p, callA_tuple, callB_some, callC_some, resolve_go, resolveK_nil, resolveK_cons, mergeAt, freezeRows, freezeRow, V.msls, mslsL, V.deep, deepL, V.resolve1, V.flat, flatL, c17, c34, c47, c71, evRegion_draw, drawK_some, run_cons, run_traceK, run_trace, run_trace0, run_traceN, run_traceC, leave_yn, canon_P, canonPK_some, canonPK.canonPL, leaveB_mk, rng1, rng2, rng3, rng4, rng5, rng6, refsL_strs, f2, d2]
end Go.Ev
