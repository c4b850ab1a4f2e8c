/- A part of the proof of ReportBack (the second form: what is handed in is of bulk at most 1048576): no statement of the seat's stands here. -/
import Derived.Test.YtoppmjanignfdaaDoorRi
set_option linter.unusedSectionVars false
set_option linter.unusedSimpArgs false
set_option linter.unusedVariables false
set_option linter.all false
set_option linter.unusedVariables false
set_option linter.unusedSimpArgs false
set_option linter.unusedSectionVars false
set_option maxRecDepth 100000
set_option maxHeartbeats 4000000
namespace Go.Ev
open Go Go.Proofs
def aggOf (r : Rep) (wit short cells : V) : List V := [.int .i64 r.k, .int .i64 r.a, .int .i64 r.fa, .int .i64 r.fe, wit, .int .i64 r.items, short, cells]
def P8 (r : Rep) (wit short cells : V) (n : Nat) (ls : List (List UInt8)) (ver i : Nat) : List V :=
  [.agg (aggOf r wit short cells), .ptr 0 0 0, .str [], .int .i64 0, .msl 1 ver 0 1 ls.length, .dead, .dead, .dead, .dead, .dead,
   .agg (aggOf r wit short cells), .bool true, .bool false, .ptr 0 0 5, .int .i64 r.items, .str (decS r.items), .str (bItems ++ decS r.items), .ptr 0 0 0, .agg [.int .i64 r.k, .int .i64 r.a, .int .i64 r.fa, .int .i64 r.fe, wit], .str (toldS r.k r.a r.fa r.fe),
   .msl 1 0 0 1 3, .ptr 0 0 6, short, .int .i64 n, .int .i64 i]
def H8 (r : Rep) (wit short cells : V) (ls : List (List UInt8)) (ver : Nat) : Heap := [some (.row (aggOf r wit short cells) true 0), some (.row (strsV ls) true ver)]
def S8a (r : Rep) (wit short cells : V) (n : Nat) (ls : List (List UInt8)) (ver i : Nat) : St := ⟨P8 r wit short cells n ls ver i ++ List.replicate 39 .dead, H8 r wit short cells ls ver⟩
theorem strsV_snoc (ls : List (List UInt8)) (x : List UInt8) : strsV (ls ++ [x]) = strsV ls ++ [.str x] := by simp [strsV]
section
variable {X : Ctx} [h : Mid X]
theorem round8a (r : Rep) (wit short cells : V) (hw : wit.scalar = true ∧ wit.refs = []) (hs : short.scalar = true ∧ short.refs = []) (hc : cells.scalar = true ∧ cells.refs = []) (l : List Itm) (hk : ∀ i ∈ l, i.ok) (hl : l.length ≤ 2000000)
    (e : short = .sl 3 l.length (itemsV l)) (ls : List (List UInt8)) (hls : ls.length ≤ 6000000) (ver i : Nat) (hi : i < l.length) (m : Nat) :
    mapHd [33, 32, 31, 30, 29, 28, 6, 27, 26, 25] (evCode X (m + 60) 8 0 L8a (S8a r wit short cells l.length ls ver i)) = some (.normal, S8a r wit short cells l.length (ls ++ [itemL l[i]]) (ver + 1) (i + 1)) := by
  obtain ⟨w1, w2⟩ := hw
  obtain ⟨t1, t2⟩ := hs
  obtain ⟨d1, d2⟩ := hc
  have hok := hk _ (List.getElem_mem hi)
  obtain ⟨hsl, hlen, hb⟩ := SlOk.of_data hok
  obtain ⟨s1, s2, s3, s4⟩ := hsl
  have hd : l.drop i = l[i] :: l.drop (i + 1) := List.drop_eq_getElem_cons hi
  have hx : (itemsV l).drop (i * 3) = .int .i64 l[i].d :: .int .i64 l[i].p :: l[i].x :: itemsV (l.drop (i + 1)) := by rw [itemsV_drop, hd]; rfl
  have hcall := fun m => c16 (X := X) m l[i].d l[i].p l[i].x l[i].bytes hok s1 s2 s3 hb
  have hr : ∀ f, l[i].x.ren f = l[i].x := fun f => ren_id f _ s3
  have r1 : ∀ f, wit.ren f = wit := fun f => ren_id f _ w2
  have r2 : ∀ f, short.ren f = short := fun f => ren_id f _ t2
  have r3 : ∀ f, cells.ren f = cells := fun f => ren_id f _ d2
  have hi' : (i : Int) < l.length := by omega
  obtain ⟨f1, f2, f3⟩ := itemsV_flat l hk
  have hw' : IntKind.i64.wrap ((i : Int) + 1) = ((i + 1 : Nat) : Int) := by rw [wrapI64 (by omega) (by omega)]; rfl
  have g1 : (2 * (ls.length + 1) + 1000) * 16 ≤ 70368744177664 := by omega
  have f4 : ∀ f, renL f (itemsV l) = itemsV l := fun f => renL_id f _ f2
  have tk := take_strs ls
  have hl2 := strsV_len ls
  subst e
  simp -implicitDefEqProofs [run_seq, run_then, run_then_ret, run_then_exit, run_region, run_regionK, run_cond, run_cond_true, run_cond_false, run_block, run_block_exit, run_block_ret, run_block_normal, evCode_exit, evCode_ret, evCode_skip, evRegion_seq, run_seqs, run_seqK, evSeq_zero, run_step, run_stepO, run_stepK_true, run_stepK_false, run_stepR, wantedV, evOp, evOpR, opd, putTm, putAll, ofValue, ofScalar, binV, intOp, unV, und_p, size_p, bytesOf_p, zeroV_p, aggT_p, size3, size5, size9, size22, size24, size25, size27, size28, size29, size31, size40, size42, size47, agg3, agg5, agg9, agg22, agg24, agg25, agg27, agg28, agg29, agg31, agg40, agg42, agg47, bytesOf3, bytesOf5, bytesOf9, bytesOf42, bytesOf47, zeroV3, zeroV5, zeroV9, zeroV24, zeroV27, zeroV31, zeroV42, zeroV47, Tryd.underlying3, Tryd.underlying5, Tryd.underlying9, Tryd.underlying22, Tryd.underlying24, Tryd.underlying27, Tryd.underlying28, Tryd.underlying29, Tryd.underlying31, Tryd.underlying40, Tryd.underlying42, Tryd.underlying47, Tryd.underlying51, Tryd.underlying61, Tryd.underlying78, wrapI64, builtinV, convV, len9, len_nil, len_slz, len_sl, len_msl, slT, minV, asI, asN, ce_int, ce_str, ce_bool, ce_agg, ce_msl, ce_sl, ce_nilsl, sc_int, sc_str, sc_bool, sc_msl, sc_sl, sc_nilsl, sc_slz, fillV, splice, Heap.put, Heap.get, appendV, srcCells, cellsOf, rowOf, zerosT, isIntT, isStr, maxBytes, indexAddrV, fieldAddrV, fieldOf, sliceV, storeAt, cellsAt, takeV, partV, nextV, strOp, cfst, csnd, mapHd_some, hdS_mk, canonK_some, reach_nil, reach_cons, reachGo, clearTm, refsL, V.refs, Blk.refs, renL, V.ren, Blk.ren, indexOf, subHeap, resultsR, leaveR_some, lastK_ret, lastK_exit, fin_ret, fin_normal, leave_int, leave_bool, leave_str, run_callV, ext_p, XR_x, mut_p, callA_tuple, callB_some, callC_some, resolve_go, resolveK_nil, resolveK_cons, mergeAt, freezeRows, freezeRow, V.msls, mslsL, V.deep, deepL, V.resolve1, V.flat, flatL, c17, c34, c47, c71, evRegion_draw, drawK_some, run_cons, run_traceK, run_trace, run_trace0, run_traceN, run_traceC, L8a, B8, Tryd.f8, S8a, P8, H8, aggOf, hi, hi', hx, hcall, s1, s2, s3, hr, hw', w1, w2, t1, t2, d1, d2, r1, r2, r3, g1, tk, hl2, refsL_strs, renL_strs, strsV_snoc, strsV_noScalar, itemL, f2, f4, refsL_app', renL_app']
def S8b (r : Rep) (wit short cells : V) (n nc : Nat) (ls : List (List UInt8)) (ver j : Nat) : St :=
  ⟨P8 r wit short cells n ls ver n ++ (.bool false :: List.replicate 8 .dead ++ [.ptr 0 0 7, cells, .int .i64 nc, .int .i64 j] ++ List.replicate 26 .dead), H8 r wit short cells ls ver⟩
theorem round8b (r : Rep) (wit short cells : V) (hw : wit.scalar = true ∧ wit.refs = []) (hs : short.scalar = true ∧ short.refs = []) (hc : cells.scalar = true ∧ cells.refs = []) (n : Nat) (l : List Cel) (hl : l.length ≤ 2000000)
    (e : cells = .sl 3 l.length (cellsV l)) (ls : List (List UInt8)) (hls : ls.length ≤ 6000000) (ver i : Nat) (hi : i < l.length) (m : Nat) :
    mapHd [55, 54, 53, 52, 51, 50, 49, 48, 47, 46, 45, 44, 43, 42, 41, 8, 40, 39, 38] (evCode X (m + 60) 8 0 L8b (S8b r wit short cells n l.length ls ver i)) = some (.normal, S8b r wit short cells n l.length (ls ++ [cellL l[i]]) (ver + 1) (i + 1)) := by
  obtain ⟨w1, w2⟩ := hw
  obtain ⟨t1, t2⟩ := hs
  obtain ⟨d1, d2⟩ := hc
  have hd : l.drop i = l[i] :: l.drop (i + 1) := List.drop_eq_getElem_cons hi
  have hx : (cellsV l).drop (i * 3) = .int .i64 l[i].p :: .int .i64 l[i].s :: .int .i64 l[i].e :: cellsV (l.drop (i + 1)) := by rw [cellsV_drop, hd]; rfl
  have r1 : ∀ f, wit.ren f = wit := fun f => ren_id f _ w2
  have r2 : ∀ f, short.ren f = short := fun f => ren_id f _ t2
  have r3 : ∀ f, cells.ren f = cells := fun f => ren_id f _ d2
  have hi' : (i : Int) < l.length := by omega
  obtain ⟨f1, f2, f3⟩ := cellsV_flat l
  have hw' : IntKind.i64.wrap ((i : Int) + 1) = ((i + 1 : Nat) : Int) := by rw [wrapI64 (by omega) (by omega)]; rfl
  have g1 : (2 * (ls.length + 1) + 1000) * 16 ≤ 70368744177664 := by omega
  have f4 : ∀ f, renL f (cellsV l) = cellsV l := fun f => renL_id f _ f2
  have tk := take_strs ls
  have hl2 := strsV_len ls
  have lp := hexS_len l[i].p
  have l1 := decS_len l[i].s
  have l2 := decS_len l[i].e
  have J := spJoin_strs [[99, 101, 108, 108], hexS l[i].p, decS l[i].s, decS l[i].e] [32] 4 rfl (by decide) (by simp [Lib.join]; omega) []
  simp only [strsV, List.map] at J
  subst e
  simp -implicitDefEqProofs [run_seq, run_then, run_then_ret, run_then_exit, run_region, run_regionK, run_cond, run_cond_true, run_cond_false, run_block, run_block_exit, run_block_ret, run_block_normal, evCode_exit, evCode_ret, evCode_skip, evRegion_seq, run_seqs, run_seqK, evSeq_zero, run_step, run_stepO, run_stepK_true, run_stepK_false, run_stepR, wantedV, evOp, evOpR, opd, putTm, putAll, ofValue, ofScalar, binV, intOp, unV, und_p, size_p, bytesOf_p, zeroV_p, aggT_p, size3, size5, size9, size22, size24, size25, size27, size28, size29, size31, size40, size42, size47, agg3, agg5, agg9, agg22, agg24, agg25, agg27, agg28, agg29, agg31, agg40, agg42, agg47, bytesOf3, bytesOf5, bytesOf9, bytesOf42, bytesOf47, zeroV3, zeroV5, zeroV9, zeroV24, zeroV27, zeroV31, zeroV42, zeroV47, Tryd.underlying3, Tryd.underlying5, Tryd.underlying9, Tryd.underlying22, Tryd.underlying24, Tryd.underlying27, Tryd.underlying28, Tryd.underlying29, Tryd.underlying31, Tryd.underlying40, Tryd.underlying42, Tryd.underlying47, Tryd.underlying51, Tryd.underlying61, Tryd.underlying78, wrapI64, builtinV, convV, len9, len_nil, len_slz, len_sl, len_msl, slT, minV, asI, asN, ce_int, ce_str, ce_bool, ce_agg, ce_msl, ce_sl, ce_nilsl, sc_int, sc_str, sc_bool, sc_msl, sc_sl, sc_nilsl, sc_slz, fillV, splice, Heap.put, Heap.get, appendV, srcCells, cellsOf, rowOf, zerosT, isIntT, isStr, maxBytes, indexAddrV, fieldAddrV, fieldOf, sliceV, storeAt, cellsAt, takeV, partV, nextV, strOp, cfst, csnd, mapHd_some, hdS_mk, canonK_some, reach_nil, reach_cons, reachGo, clearTm, refsL, V.refs, Blk.refs, renL, V.ren, Blk.ren, indexOf, subHeap, resultsR, leaveR_some, lastK_ret, lastK_exit, fin_ret, fin_normal, leave_int, leave_bool, leave_str, run_callV, ext_p, XR_x, mut_p, callA_tuple, callB_some, callC_some, resolve_go, resolveK_nil, resolveK_cons, mergeAt, freezeRows, freezeRow, V.msls, mslsL, V.deep, deepL, V.resolve1, V.flat, flatL, c17, c34, c47, c71, evRegion_draw, drawK_some, run_cons, run_traceK, run_trace, run_trace0, run_traceN, run_traceC, L8b, B8, Tryd.f8, S8b, P8, H8, aggOf, hi, hi', hx, c18, c14, J, hw', w1, w2, t1, t2, d1, d2, r1, r2, r3, g1, tk, hl2, refsL_strs, renL_strs, strsV_snoc, strsV_noScalar, f2, f4, refsL_app', renL_app']
  rw [if_pos]
  rotate_left
  · kernel_rfl
  · simp -implicitDefEqProofs [run_seq, run_then, run_then_ret, run_then_exit, run_region, run_regionK, run_cond, run_cond_true, run_cond_false, run_block, run_block_exit, run_block_ret, run_block_normal, evCode_exit, evCode_ret, evCode_skip, evRegion_seq, run_seqs, run_seqK, evSeq_zero, run_step, run_stepO, run_stepK_true, run_stepK_false, run_stepR, wantedV, evOp, evOpR, opd, putTm, putAll, ofValue, ofScalar, binV, intOp, unV, und_p, size_p, bytesOf_p, zeroV_p, aggT_p, size3, size5, size9, size22, size24, size25, size27, size28, size29, size31, size40, size42, size47, agg3, agg5, agg9, agg22, agg24, agg25, agg27, agg28, agg29, agg31, agg40, agg42, agg47, bytesOf3, bytesOf5, bytesOf9, bytesOf42, bytesOf47, zeroV3, zeroV5, zeroV9, zeroV24, zeroV27, zeroV31, zeroV42, zeroV47, Tryd.underlying3, Tryd.underlying5, Tryd.underlying9, Tryd.underlying22, Tryd.underlying24, Tryd.underlying27, Tryd.underlying28, Tryd.underlying29, Tryd.underlying31, Tryd.underlying40, Tryd.underlying42, Tryd.underlying47, Tryd.underlying51, Tryd.underlying61, Tryd.underlying78, wrapI64, builtinV, convV, len9, len_nil, len_slz, len_sl, len_msl, slT, minV, asI, asN, ce_int, ce_str, ce_bool, ce_agg, ce_msl, ce_sl, ce_nilsl, sc_int, sc_str, sc_bool, sc_msl, sc_sl, sc_nilsl, sc_slz, fillV, splice, Heap.put, Heap.get, appendV, srcCells, cellsOf, rowOf, zerosT, isIntT, isStr, maxBytes, indexAddrV, fieldAddrV, fieldOf, sliceV, storeAt, cellsAt, takeV, partV, nextV, strOp, cfst, csnd, mapHd_some, hdS_mk, canonK_some, reach_nil, reach_cons, reachGo, clearTm, refsL, V.refs, Blk.refs, renL, V.ren, Blk.ren, indexOf, subHeap, resultsR, leaveR_some, lastK_ret, lastK_exit, fin_ret, fin_normal, leave_int, leave_bool, leave_str, run_callV, ext_p, XR_x, mut_p, callA_tuple, callB_some, callC_some, resolve_go, resolveK_nil, resolveK_cons, mergeAt, freezeRows, freezeRow, V.msls, mslsL, V.deep, deepL, V.resolve1, V.flat, flatL, c17, c34, c47, c71, evRegion_draw, drawK_some, run_cons, run_traceK, run_trace, run_trace0, run_traceN, run_traceC, L8b, B8, Tryd.f8, S8b, P8, H8, aggOf, hi, hi', hx, c18, c14, J, hw', w1, w2, t1, t2, d1, d2, r1, r2, r3, g1, tk, hl2, refsL_strs, renL_strs, strsV_snoc, strsV_noScalar, f2, f4, refsL_app', renL_app', cellL, bCell]
end
end Go.Ev
set_option linter.unusedVariables false
set_option linter.unusedSimpArgs false
set_option linter.unusedSectionVars false
set_option maxRecDepth 100000
set_option maxHeartbeats 4000000
namespace Go.Ev
open Go Go.Proofs
def tailV (T : List UInt8) : V := if 1048576 < T.length then .tuple [.str [], .int .i64 4] else .tuple [.str T, .int .i64 0]
theorem leave_pr {X : Ctx} {f : FuncId} (s : List UInt8) (n : Int) (H : Heap) : leave X f 0 (.tuple [.str s, .int .i64 n]) H = (.tuple [.str s, .int .i64 n], []) :=
  leave_pure (by simp [V.msls, mslsL]) (by simp [V.refs, refsL]) H
section
variable {X : Ctx} [h : Mid X]
noncomputable def K8b (X : Ctx) (q : Nat) (o : Option (Ex × St)) : Option (V × Heap) := fin X #[.tmp 2, .tmp 3] 8 0 (thenK X (q + 20) 8 0 R8b (blockK 2 o))
theorem end8b (q m : Nat) (r : Rep) (wit short cells : V) (hw : wit.scalar = true ∧ wit.refs = []) (hs : short.scalar = true ∧ short.refs = []) (hc : cells.scalar = true ∧ cells.refs = []) (n nc : Nat)
    (ls : List (List UInt8)) (hls : ls.length ≤ 6000000) (hT : (Lib.join (ls ++ [bEnd, []]) [10]).length ≤ 140737488355328) (ver : Nat) :
    lastK (K8b X q) (evCode X (m + 60) 8 0 L8b (S8b r wit short cells n nc ls ver nc)) = some (tailV (Lib.join (ls ++ [bEnd, []]) [10]), []) := by
  obtain ⟨w1, w2⟩ := hw
  obtain ⟨t1, t2⟩ := hs
  obtain ⟨d1, d2⟩ := hc
  have g1 : (2 * (ls.length + 2) + 1000) * 16 ≤ 70368744177664 := by omega
  have tk := take_strs ls
  have hl2 := strsV_len ls
  have J := spJoin_strs (ls ++ [bEnd, []]) [10] (ls.length + 2) (by simp) (by omega) hT []
  have es : strsV (ls ++ [bEnd, []]) = strsV ls ++ [V.str [101, 110, 100], V.str []] := by simp [strsV, bEnd]
  rw [es] at J
  have tk2 : (strsV ls ++ [V.str [101, 110, 100], V.str []]).take (ls.length + 2) = strsV ls ++ [V.str [101, 110, 100], V.str []] := List.take_of_length_le (by simp [strsV_len])
  generalize Lib.join (ls ++ [bEnd, []]) [10] = T at *
  unfold tailV
  by_cases hb : (1048576 : Int) < T.length
  · have hb' : 1048576 < T.length := by omega
    rw [if_pos hb']
    simp -implicitDefEqProofs [run_seq, run_then, run_then_ret, run_then_exit, run_region, run_regionK, run_cond, run_cond_true, run_cond_false, run_block, run_block_exit, run_block_ret, run_block_normal, evCode_exit, evCode_ret, evCode_skip, evRegion_seq, run_seqs, run_seqK, evSeq_zero, run_step, run_stepO, run_stepK_true, run_stepK_false, run_stepR, wantedV, evOp, evOpR, opd, putTm, putAll, ofValue, ofScalar, binV, intOp, unV, und_p, size_p, bytesOf_p, zeroV_p, aggT_p, size3, size5, size9, size22, size24, size25, size27, size28, size29, size31, size40, size42, size47, agg3, agg5, agg9, agg22, agg24, agg25, agg27, agg28, agg29, agg31, agg40, agg42, agg47, bytesOf3, bytesOf5, bytesOf9, bytesOf42, bytesOf47, zeroV3, zeroV5, zeroV9, zeroV24, zeroV27, zeroV31, zeroV42, zeroV47, Tryd.underlying3, Tryd.underlying5, Tryd.underlying9, Tryd.underlying22, Tryd.underlying24, Tryd.underlying27, Tryd.underlying28, Tryd.underlying29, Tryd.underlying31, Tryd.underlying40, Tryd.underlying42, Tryd.underlying47, Tryd.underlying51, Tryd.underlying61, Tryd.underlying78, wrapI64, builtinV, convV, len9, len_nil, len_slz, len_sl, len_msl, slT, minV, asI, asN, ce_int, ce_str, ce_bool, ce_agg, ce_msl, ce_sl, ce_nilsl, sc_int, sc_str, sc_bool, sc_msl, sc_sl, sc_nilsl, sc_slz, fillV, splice, Heap.put, Heap.get, appendV, srcCells, cellsOf, rowOf, zerosT, isIntT, isStr, maxBytes, indexAddrV, fieldAddrV, fieldOf, sliceV, storeAt, cellsAt, takeV, partV, nextV, strOp, cfst, csnd, mapHd_some, hdS_mk, canonK_some, reach_nil, reach_cons, reachGo, clearTm, refsL, V.refs, Blk.refs, renL, V.ren, Blk.ren, indexOf, subHeap, resultsR, leaveR_some, lastK_ret, lastK_exit, fin_ret, fin_normal, leave_int, leave_bool, leave_str, run_callV, ext_p, XR_x, mut_p, callA_tuple, callB_some, callC_some, resolve_go, resolveK_nil, resolveK_cons, mergeAt, freezeRows, freezeRow, V.msls, mslsL, V.deep, deepL, V.resolve1, V.flat, flatL, c17, c34, c47, c71, evRegion_draw, drawK_some, run_cons, run_traceK, run_trace, run_trace0, run_traceN, run_traceC, K8b, R8b, L8b, B8, Tryd.f8, S8b, P8, H8, aggOf, J, w1, w2, t1, t2, d1, d2, g1, tk, tk2, hl2, refsL_strs, mslsL_strs, renL_strs, strsV_noScalar, refsL_app', renL_app', mslsL_app', hb, leave_pr]
  · have hb' : ¬ 1048576 < T.length := by omega
    rw [if_neg hb']
    simp -implicitDefEqProofs [run_seq, run_then, run_then_ret, run_then_exit, run_region, run_regionK, run_cond, run_cond_true, run_cond_false, run_block, run_block_exit, run_block_ret, run_block_normal, evCode_exit, evCode_ret, evCode_skip, evRegion_seq, run_seqs, run_seqK, evSeq_zero, run_step, run_stepO, run_stepK_true, run_stepK_false, run_stepR, wantedV, evOp, evOpR, opd, putTm, putAll, ofValue, ofScalar, binV, intOp, unV, und_p, size_p, bytesOf_p, zeroV_p, aggT_p, size3, size5, size9, size22, size24, size25, size27, size28, size29, size31, size40, size42, size47, agg3, agg5, agg9, agg22, agg24, agg25, agg27, agg28, agg29, agg31, agg40, agg42, agg47, bytesOf3, bytesOf5, bytesOf9, bytesOf42, bytesOf47, zeroV3, zeroV5, zeroV9, zeroV24, zeroV27, zeroV31, zeroV42, zeroV47, Tryd.underlying3, Tryd.underlying5, Tryd.underlying9, Tryd.underlying22, Tryd.underlying24, Tryd.underlying27, Tryd.underlying28, Tryd.underlying29, Tryd.underlying31, Tryd.underlying40, Tryd.underlying42, Tryd.underlying47, Tryd.underlying51, Tryd.underlying61, Tryd.underlying78, wrapI64, builtinV, convV, len9, len_nil, len_slz, len_sl, len_msl, slT, minV, asI, asN, ce_int, ce_str, ce_bool, ce_agg, ce_msl, ce_sl, ce_nilsl, sc_int, sc_str, sc_bool, sc_msl, sc_sl, sc_nilsl, sc_slz, fillV, splice, Heap.put, Heap.get, appendV, srcCells, cellsOf, rowOf, zerosT, isIntT, isStr, maxBytes, indexAddrV, fieldAddrV, fieldOf, sliceV, storeAt, cellsAt, takeV, partV, nextV, strOp, cfst, csnd, mapHd_some, hdS_mk, canonK_some, reach_nil, reach_cons, reachGo, clearTm, refsL, V.refs, Blk.refs, renL, V.ren, Blk.ren, indexOf, subHeap, resultsR, leaveR_some, lastK_ret, lastK_exit, fin_ret, fin_normal, leave_int, leave_bool, leave_str, run_callV, ext_p, XR_x, mut_p, callA_tuple, callB_some, callC_some, resolve_go, resolveK_nil, resolveK_cons, mergeAt, freezeRows, freezeRow, V.msls, mslsL, V.deep, deepL, V.resolve1, V.flat, flatL, c17, c34, c47, c71, evRegion_draw, drawK_some, run_cons, run_traceK, run_trace, run_trace0, run_traceN, run_traceC, K8b, R8b, L8b, B8, Tryd.f8, S8b, P8, H8, aggOf, J, w1, w2, t1, t2, d1, d2, g1, tk, tk2, hl2, refsL_strs, mslsL_strs, renL_strs, strsV_noScalar, refsL_app', renL_app', mslsL_app', hb, leave_pr]
theorem loop8b (q : Nat) (r : Rep) (wit short cells : V) (hw : wit.scalar = true ∧ wit.refs = []) (hs : short.scalar = true ∧ short.refs = []) (hc : cells.scalar = true ∧ cells.refs = []) (n : Nat) (l : List Cel) (hl : l.length ≤ 2000000)
    (hx : (l = [] ∧ (cells = .nilsl ∨ cells = .slz)) ∨ (0 ≤ l.length ∧ cells = .sl 3 l.length (cellsV l))) (F : List (List UInt8)) (hF : F.length ≤ 6000000) (hT : (Lib.join (F ++ [bEnd, []]) [10]).length ≤ 140737488355328)
    (k : Nat) (hk : l.length ≤ k) (ls : List (List UInt8)) (ver : Nat) (hls : ls ++ l.map cellL = F) (st : St) (hst : hdS [55, 54, 53, 52, 51, 50, 49, 48, 47, 46, 45, 44, 43, 42, 41, 8, 40, 39, 38] st = S8b r wit short cells n l.length ls ver 0) :
    K8b X q (evCode X (k + 60 + 1) 8 0 (.loop L8b) st) = some (tailV (Lib.join (F ++ [bEnd, []]) [10]), []) := by
  refine loop_run (clears8b (X := X)) (fun a : List (List UInt8) × Nat × Nat => S8b r wit short cells n l.length a.1 a.2.1 a.2.2) (fun a => a.2.2 ≤ l.length ∧ a.1 ++ (l.drop a.2.2).map cellL = F) (fun a => l.length - a.2.2) (fun _ => (tailV (Lib.join (F ++ [bEnd, []]) [10]), [])) (K8b X q) 60 ?_ k (ls, ver, 0) st (by simpa using hk) (by simpa using hls) hst
  rintro ⟨ls, ver, j⟩ ⟨hj, hls⟩
  simp only at hj hls ⊢
  have hlen : ls.length ≤ 6000000 := by rw [← hls] at hF; simp at hF; omega
  by_cases he : j = l.length
  · right
    subst he
    intro m
    have : ls = F := by simpa using hls
    subst this
    exact end8b q m r wit short cells hw hs hc n l.length ls hlen hT ver
  · left
    have hil : j < l.length := by omega
    have hd : l.drop j = l[j] :: l.drop (j + 1) := List.drop_eq_getElem_cons hil
    have hx' : cells = .sl 3 l.length (cellsV l) := by
      rcases hx with ⟨e, _⟩ | ⟨_, e⟩
      · rw [e] at hil; simp at hil
      · exact e
    refine ⟨(ls ++ [cellL l[j]], ver + 1, j + 1), ⟨by show j + 1 ≤ _; omega, ?_⟩, by show l.length - (j + 1) < l.length - j; omega, trivial, fun m => round8b r wit short cells hw hs hc n l hl hx' ls hlen ver j hil m⟩
    rw [hd, List.map_cons] at hls
    show (ls ++ [cellL l[j]]) ++ (l.drop (j + 1)).map cellL = F
    rw [List.append_assoc]
    exact hls
noncomputable def K8a (X : Ctx) (k : Nat) (o : Option (Ex × St)) : Option (V × Heap) := fin X #[.tmp 2, .tmp 3] 8 0 (thenK X (k + 64) 8 0 R8a (blockK 0 o))
theorem end8a (r : Rep) (wit short cells : V) (hw : wit.scalar = true ∧ wit.refs = []) (hs : short.scalar = true ∧ short.refs = []) (hc : cells.scalar = true ∧ cells.refs = []) (n : Nat) (l : List Cel) (hl : l.length ≤ 2000000)
    (hlen : ∀ H, lenV X 29 cells H = some { v := .int .i64 l.length })
    (hx : (l = [] ∧ (cells = .nilsl ∨ cells = .slz)) ∨ (0 ≤ l.length ∧ cells = .sl 3 l.length (cellsV l))) (F : List (List UInt8)) (hF : F.length ≤ 6000000) (hT : (Lib.join (F ++ [bEnd, []]) [10]).length ≤ 140737488355328)
    (k : Nat) (hk : l.length ≤ k) (ls : List (List UInt8)) (ver : Nat) (hls : ls ++ l.map cellL = F) (m : Nat) :
    lastK (K8a X k) (evCode X (m + 60) 8 0 L8a (S8a r wit short cells n ls ver n)) = some (tailV (Lib.join (F ++ [bEnd, []]) [10]), []) := by
  obtain ⟨w1, w2⟩ := hw
  obtain ⟨t1, t2⟩ := hs
  obtain ⟨d1, d2⟩ := hc
  have r1 : ∀ f, wit.ren f = wit := fun f => ren_id f _ w2
  have r2 : ∀ f, short.ren f = short := fun f => ren_id f _ t2
  have r3 : ∀ f, cells.ren f = cells := fun f => ren_id f _ d2
  simp -implicitDefEqProofs [run_seq, run_then, run_then_ret, run_then_exit, run_region, run_regionK, run_cond, run_cond_true, run_cond_false, run_block, run_block_exit, run_block_ret, run_block_normal, evCode_exit, evCode_ret, evCode_skip, evRegion_seq, run_seqs, run_seqK, evSeq_zero, run_step, run_stepO, run_stepK_true, run_stepK_false, run_stepR, wantedV, evOp, evOpR, opd, putTm, putAll, ofValue, ofScalar, binV, intOp, unV, und_p, size_p, bytesOf_p, zeroV_p, aggT_p, size3, size5, size9, size22, size24, size25, size27, size28, size29, size31, size40, size42, size47, agg3, agg5, agg9, agg22, agg24, agg25, agg27, agg28, agg29, agg31, agg40, agg42, agg47, bytesOf3, bytesOf5, bytesOf9, bytesOf42, bytesOf47, zeroV3, zeroV5, zeroV9, zeroV24, zeroV27, zeroV31, zeroV42, zeroV47, Tryd.underlying3, Tryd.underlying5, Tryd.underlying9, Tryd.underlying22, Tryd.underlying24, Tryd.underlying27, Tryd.underlying28, Tryd.underlying29, Tryd.underlying31, Tryd.underlying40, Tryd.underlying42, Tryd.underlying47, Tryd.underlying51, Tryd.underlying61, Tryd.underlying78, wrapI64, builtinV, convV, len9, len_nil, len_slz, len_sl, len_msl, slT, minV, asI, asN, ce_int, ce_str, ce_bool, ce_agg, ce_msl, ce_sl, ce_nilsl, sc_int, sc_str, sc_bool, sc_msl, sc_sl, sc_nilsl, sc_slz, fillV, splice, Heap.put, Heap.get, appendV, srcCells, cellsOf, rowOf, zerosT, isIntT, isStr, maxBytes, indexAddrV, fieldAddrV, fieldOf, sliceV, storeAt, cellsAt, takeV, partV, nextV, strOp, cfst, csnd, mapHd_some, hdS_mk, canonK_some, reach_nil, reach_cons, reachGo, clearTm, refsL, V.refs, Blk.refs, renL, V.ren, Blk.ren, indexOf, subHeap, resultsR, leaveR_some, lastK_ret, lastK_exit, fin_ret, fin_normal, leave_int, leave_bool, leave_str, run_callV, ext_p, XR_x, mut_p, callA_tuple, callB_some, callC_some, resolve_go, resolveK_nil, resolveK_cons, mergeAt, freezeRows, freezeRow, V.msls, mslsL, V.deep, deepL, V.resolve1, V.flat, flatL, c17, c34, c47, c71, evRegion_draw, drawK_some, run_cons, run_traceK, run_trace, run_trace0, run_traceN, run_traceC, K8a, R8a, L8a, B8, Tryd.f8, S8a, P8, H8, aggOf, w1, t1, d1, hlen]
  refine loop8b (k + 43) r wit short cells ⟨w1, w2⟩ ⟨t1, t2⟩ ⟨d1, d2⟩ n l hl hx F hF hT k hk ls ver hls _ ?_
  simp -implicitDefEqProofs [mapHd_some, hdS_mk, canonK_some, reach_nil, reach_cons, reachGo, clearTm, refsL, V.refs, Blk.refs, renL, V.ren, Blk.ren, indexOf, subHeap, Heap.get, S8b, P8, H8, aggOf, w2, t2, d2, refsL_strs, r1, r2, r3, renL_strs]
theorem loop8a (r : Rep) (wit short cells : V) (hw : wit.scalar = true ∧ wit.refs = []) (hs : short.scalar = true ∧ short.refs = []) (hc : cells.scalar = true ∧ cells.refs = []) (li : List Itm) (hk : ∀ i ∈ li, i.ok) (hli : li.length ≤ 2000000)
    (hxi : (li = [] ∧ (short = .nilsl ∨ short = .slz)) ∨ (0 ≤ li.length ∧ short = .sl 3 li.length (itemsV li))) (l : List Cel) (hl : l.length ≤ 2000000)
    (hlen : ∀ H, lenV X 29 cells H = some { v := .int .i64 l.length })
    (hx : (l = [] ∧ (cells = .nilsl ∨ cells = .slz)) ∨ (0 ≤ l.length ∧ cells = .sl 3 l.length (cellsV l))) (F : List (List UInt8)) (hF : F.length ≤ 6000000) (hT : (Lib.join (F ++ [bEnd, []]) [10]).length ≤ 140737488355328)
    (kb : Nat) (hkb : l.length ≤ kb) (ka : Nat) (hka : li.length ≤ ka) (ls : List (List UInt8)) (ver : Nat) (hls : ls ++ (li.map itemL ++ l.map cellL) = F) (st : St) (hst : hdS [33, 32, 31, 30, 29, 28, 6, 27, 26, 25] st = S8a r wit short cells li.length ls ver 0) :
    K8a X kb (evCode X (ka + 60 + 1) 8 0 (.loop L8a) st) = some (tailV (Lib.join (F ++ [bEnd, []]) [10]), []) := by
  refine loop_run (clears8a (X := X)) (fun a : List (List UInt8) × Nat × Nat => S8a r wit short cells li.length a.1 a.2.1 a.2.2) (fun a => a.2.2 ≤ li.length ∧ a.1 ++ ((li.drop a.2.2).map itemL ++ l.map cellL) = F) (fun a => li.length - a.2.2) (fun _ => (tailV (Lib.join (F ++ [bEnd, []]) [10]), [])) (K8a X kb) 60 ?_ ka (ls, ver, 0) st (by simpa using hka) (by simpa using hls) hst
  rintro ⟨ls, ver, j⟩ ⟨hj, hls⟩
  simp only at hj hls ⊢
  have hlen' : ls.length ≤ 6000000 := by rw [← hls] at hF; simp at hF; omega
  by_cases he : j = li.length
  · right
    subst he
    intro m
    exact end8a r wit short cells hw hs hc li.length l hl hlen hx F hF hT kb hkb ls ver (by simpa using hls) m
  · left
    have hil : j < li.length := by omega
    have hd : li.drop j = li[j] :: li.drop (j + 1) := List.drop_eq_getElem_cons hil
    have hx' : short = .sl 3 li.length (itemsV li) := by
      rcases hxi with ⟨e, _⟩ | ⟨_, e⟩
      · rw [e] at hil; simp at hil
      · exact e
    refine ⟨(ls ++ [itemL li[j]], ver + 1, j + 1), ⟨by show j + 1 ≤ _; omega, ?_⟩, by show li.length - (j + 1) < li.length - j; omega, trivial, fun m => round8a r wit short cells hw hs hc li hk hli hx' ls hlen' ver j hil m⟩
    rw [hd, List.map_cons] at hls
    show (ls ++ [itemL li[j]]) ++ ((li.drop (j + 1)).map itemL ++ l.map cellL) = F
    rw [List.append_assoc]
    exact hls
theorem c12 {rec : FuncId → Nat → Code → St → Option (Ex × St)} (args : List V) (H : Heap) : callWith X rec 12 args H = hookF F12p args H := call_hook Mid.h12 _ _
theorem mut12 : X.mutArgs 12 = true := Mid.m12
theorem ev8 (hsp : X.spec 8 = none) (v : V) (r : Rep) (hv : repOf v = some r) (hT : (textOf r).length ≤ 140737488355328) : evCall X (r.short.length + r.cells.length + 130) 8 [v] [] = some (putV r, []) := by
  have hF := hookF_rep hv
  obtain ⟨v1, v2⟩ := repOf_flat hv
  have hr : ∀ f, v.ren f = v := fun f => ren_id f v v2
  refine call_fin (nt := 64) (res := #[.tmp 2, .tmp 3]) hsp (fn_p Tryd.func8) shape8 rfl rfl ?_
  unfold repOf at hv
  split at hv
  · rename_i k a fa fe wit items short cells
    split at hv
    · rename_i li l hl hc
      split at hv
      · rename_i hw
        cases hv
        simp only [witOk, Bool.and_eq_true, List.isEmpty_iff] at hw
        obtain ⟨⟨w1, w2⟩, w3⟩ := hw
        obtain ⟨hs, hsl, hsb, hk, hxi⟩ := itemsOf_some hl
        obtain ⟨hcs, hcl, hcb, hx⟩ := cellsOfV_some hc
        have hlenS := hs.len (X := X) (t := 28) Tryd.underlying28
        have hlenC := hcs.len (X := X) (t := 29) Tryd.underlying29
        rw [hsl] at hlenS
        rw [hcl] at hlenC
        obtain ⟨s1, s2, s3, s4⟩ := hs
        obtain ⟨d1, d2, d3, d4⟩ := hcs
        have r1 : ∀ f, wit.ren f = wit := fun f => ren_id f _ w3
        have r2 : ∀ f, short.ren f = short := fun f => ren_id f _ s3
        have r3 : ∀ f, cells.ren f = cells := fun f => ren_id f _ d3
        unfold putV
        cases g1 : mayB ⟨k, a, fa, fe, items, li, l⟩
        · rw [if_neg (by simp)]
          rw [g1] at hF
          simp -implicitDefEqProofs [run_seq, run_then, run_then_ret, run_then_exit, run_region, run_regionK, run_cond, run_cond_true, run_cond_false, run_block, run_block_exit, run_block_ret, run_block_normal, evCode_exit, evCode_ret, evCode_skip, evRegion_seq, run_seqs, run_seqK, evSeq_zero, run_step, run_stepO, run_stepK_true, run_stepK_false, run_stepR, wantedV, evOp, evOpR, opd, putTm, putAll, ofValue, ofScalar, binV, intOp, unV, und_p, size_p, bytesOf_p, zeroV_p, aggT_p, size3, size5, size9, size22, size24, size25, size27, size28, size29, size31, size40, size42, size47, agg3, agg5, agg9, agg22, agg24, agg25, agg27, agg28, agg29, agg31, agg40, agg42, agg47, bytesOf3, bytesOf5, bytesOf9, bytesOf42, bytesOf47, zeroV3, zeroV5, zeroV9, zeroV24, zeroV27, zeroV31, zeroV42, zeroV47, Tryd.underlying3, Tryd.underlying5, Tryd.underlying9, Tryd.underlying22, Tryd.underlying24, Tryd.underlying27, Tryd.underlying28, Tryd.underlying29, Tryd.underlying31, Tryd.underlying40, Tryd.underlying42, Tryd.underlying47, Tryd.underlying51, Tryd.underlying61, Tryd.underlying78, wrapI64, builtinV, convV, len9, len_nil, len_slz, len_sl, len_msl, slT, minV, asI, asN, ce_int, ce_str, ce_bool, ce_agg, ce_msl, ce_sl, ce_nilsl, sc_int, sc_str, sc_bool, sc_msl, sc_sl, sc_nilsl, sc_slz, fillV, splice, Heap.put, Heap.get, appendV, srcCells, cellsOf, rowOf, zerosT, isIntT, isStr, maxBytes, indexAddrV, fieldAddrV, fieldOf, sliceV, storeAt, cellsAt, takeV, partV, nextV, strOp, cfst, csnd, mapHd_some, hdS_mk, canonK_some, reach_nil, reach_cons, reachGo, clearTm, refsL, V.refs, Blk.refs, renL, V.ren, Blk.ren, indexOf, subHeap, resultsR, leaveR_some, lastK_ret, lastK_exit, fin_ret, fin_normal, leave_int, leave_bool, leave_str, run_callV, ext_p, XR_x, mut_p, callA_tuple, callB_some, callC_some, resolve_go, resolveK_nil, resolveK_cons, mergeAt, freezeRows, freezeRow, V.msls, mslsL, V.deep, deepL, V.resolve1, V.flat, flatL, c17, c34, c47, c71, evRegion_draw, drawK_some, run_cons, run_traceK, run_trace, run_trace0, run_traceN, run_traceC, c12, mut12, hF, B8, Tryd.f8, w1, w2, w3, s1, s2, s3, d1, d2, d3, r1, r2, r3, leave_pr]
        · rw [if_pos rfl]
          rw [g1] at hF
          have g4 : 6 + (decS items).length ≤ 70368744177664 := by have := decS_len items; omega
          have c15' := fun m => c15 (X := X) m k a fa fe wit w1
          simp -implicitDefEqProofs [run_seq, run_then, run_then_ret, run_then_exit, run_region, run_regionK, run_cond, run_cond_true, run_cond_false, run_block, run_block_exit, run_block_ret, run_block_normal, evCode_exit, evCode_ret, evCode_skip, evRegion_seq, run_seqs, run_seqK, evSeq_zero, run_step, run_stepO, run_stepK_true, run_stepK_false, run_stepR, wantedV, evOp, evOpR, opd, putTm, putAll, ofValue, ofScalar, binV, intOp, unV, und_p, size_p, bytesOf_p, zeroV_p, aggT_p, size3, size5, size9, size22, size24, size25, size27, size28, size29, size31, size40, size42, size47, agg3, agg5, agg9, agg22, agg24, agg25, agg27, agg28, agg29, agg31, agg40, agg42, agg47, bytesOf3, bytesOf5, bytesOf9, bytesOf42, bytesOf47, zeroV3, zeroV5, zeroV9, zeroV24, zeroV27, zeroV31, zeroV42, zeroV47, Tryd.underlying3, Tryd.underlying5, Tryd.underlying9, Tryd.underlying22, Tryd.underlying24, Tryd.underlying27, Tryd.underlying28, Tryd.underlying29, Tryd.underlying31, Tryd.underlying40, Tryd.underlying42, Tryd.underlying47, Tryd.underlying51, Tryd.underlying61, Tryd.underlying78, wrapI64, builtinV, convV, len9, len_nil, len_slz, len_sl, len_msl, slT, minV, asI, asN, ce_int, ce_str, ce_bool, ce_agg, ce_msl, ce_sl, ce_nilsl, sc_int, sc_str, sc_bool, sc_msl, sc_sl, sc_nilsl, sc_slz, fillV, splice, Heap.put, Heap.get, appendV, srcCells, cellsOf, rowOf, zerosT, isIntT, isStr, maxBytes, indexAddrV, fieldAddrV, fieldOf, sliceV, storeAt, cellsAt, takeV, partV, nextV, strOp, cfst, csnd, mapHd_some, hdS_mk, canonK_some, reach_nil, reach_cons, reachGo, clearTm, refsL, V.refs, Blk.refs, renL, V.ren, Blk.ren, indexOf, subHeap, resultsR, leaveR_some, lastK_ret, lastK_exit, fin_ret, fin_normal, leave_int, leave_bool, leave_str, run_callV, ext_p, XR_x, mut_p, callA_tuple, callB_some, callC_some, resolve_go, resolveK_nil, resolveK_cons, mergeAt, freezeRows, freezeRow, V.msls, mslsL, V.deep, deepL, V.resolve1, V.flat, flatL, c17, c34, c47, c71, evRegion_draw, drawK_some, run_cons, run_traceK, run_trace, run_trace0, run_traceN, run_traceC, c12, mut12, hF, B8, Tryd.f8, w1, w2, w3, s1, s2, s3, d1, d2, d3, r1, r2, r3, c14, c15', g4, hlenS]
          rw [if_pos]
          rotate_left
          · kernel_rfl
          · simp -implicitDefEqProofs [run_seq, run_then, run_then_ret, run_then_exit, run_region, run_regionK, run_cond, run_cond_true, run_cond_false, run_block, run_block_exit, run_block_ret, run_block_normal, evCode_exit, evCode_ret, evCode_skip, evRegion_seq, run_seqs, run_seqK, evSeq_zero, run_step, run_stepO, run_stepK_true, run_stepK_false, run_stepR, wantedV, evOp, evOpR, opd, putTm, putAll, ofValue, ofScalar, binV, intOp, unV, und_p, size_p, bytesOf_p, zeroV_p, aggT_p, size3, size5, size9, size22, size24, size25, size27, size28, size29, size31, size40, size42, size47, agg3, agg5, agg9, agg22, agg24, agg25, agg27, agg28, agg29, agg31, agg40, agg42, agg47, bytesOf3, bytesOf5, bytesOf9, bytesOf42, bytesOf47, zeroV3, zeroV5, zeroV9, zeroV24, zeroV27, zeroV31, zeroV42, zeroV47, Tryd.underlying3, Tryd.underlying5, Tryd.underlying9, Tryd.underlying22, Tryd.underlying24, Tryd.underlying27, Tryd.underlying28, Tryd.underlying29, Tryd.underlying31, Tryd.underlying40, Tryd.underlying42, Tryd.underlying47, Tryd.underlying51, Tryd.underlying61, Tryd.underlying78, wrapI64, builtinV, convV, len9, len_nil, len_slz, len_sl, len_msl, slT, minV, asI, asN, ce_int, ce_str, ce_bool, ce_agg, ce_msl, ce_sl, ce_nilsl, sc_int, sc_str, sc_bool, sc_msl, sc_sl, sc_nilsl, sc_slz, fillV, splice, Heap.put, Heap.get, appendV, srcCells, cellsOf, rowOf, zerosT, isIntT, isStr, maxBytes, indexAddrV, fieldAddrV, fieldOf, sliceV, storeAt, cellsAt, takeV, partV, nextV, strOp, cfst, csnd, mapHd_some, hdS_mk, canonK_some, reach_nil, reach_cons, reachGo, clearTm, refsL, V.refs, Blk.refs, renL, V.ren, Blk.ren, indexOf, subHeap, resultsR, leaveR_some, lastK_ret, lastK_exit, fin_ret, fin_normal, leave_int, leave_bool, leave_str, run_callV, ext_p, XR_x, mut_p, callA_tuple, callB_some, callC_some, resolve_go, resolveK_nil, resolveK_cons, mergeAt, freezeRows, freezeRow, V.msls, mslsL, V.deep, deepL, V.resolve1, V.flat, flatL, c17, c34, c47, c71, evRegion_draw, drawK_some, run_cons, run_traceK, run_trace, run_trace0, run_traceN, run_traceC, c12, mut12, hF, B8, Tryd.f8, w1, w2, w3, s1, s2, s3, d1, d2, d3, r1, r2, r3, c14, c15', g4, hlenS]
            refine loop8a (X := X) ⟨k, a, fa, fe, items, li, l⟩ wit short cells ⟨w1, w3⟩ ⟨s1, s3⟩ ⟨d1, d3⟩ li hk hsb hxi l hcb hlenC hx (linesOf ⟨k, a, fa, fe, items, li, l⟩) (by simp [linesOf, headL]; omega) hT (li.length + l.length + 62) (by omega) (li.length + l.length + 63) (by omega) (headL ⟨k, a, fa, fe, items, li, l⟩) 0 (by simp [linesOf]) _ ?_
            simp -implicitDefEqProofs [mapHd_some, hdS_mk, canonK_some, reach_nil, reach_cons, reachGo, clearTm, refsL, V.refs, Blk.refs, renL, V.ren, Blk.ren, indexOf, subHeap, Heap.get, S8a, P8, H8, aggOf, w3, s3, d3, r1, r2, r3, headL, strsV, bUmp, bItems]
      · cases hv
    · cases hv
  · cases hv
end
end Go.Ev
