/- A part of the proof of ReportLong: no statement of the seat's stands here. -/
import Derived.Test.YtoppmjanignfdaaDoorNa
set_option linter.unusedSectionVars false
set_option linter.unusedSimpArgs false
set_option linter.unusedVariables false
set_option linter.all false
set_option linter.unusedVariables false
set_option linter.unusedSimpArgs false
set_option linter.unusedSectionVars false
set_option maxRecDepth 100000
set_option maxHeartbeats 8000000
namespace Go.Ev
open Go Go.Proofs
attribute [local irreducible] zrow zstr
theorem normI_z (k : Nat) (h0 : 0 < k) (hk : k ≤ 100000000) : normI (zItm k) = zItm k := by
  unfold normI
  rw [(zItm_bytes k hk).1, (dataR_dataS (bs := List.replicate k 0) (fun x hx => by rw [(List.mem_replicate.1 hx).2]; decide)).1]
  unfold sliceB
  rw [if_neg (by intro h; have := congrArg List.length h; simp at this; omega), List.length_replicate, ← zrow_bytes]
  rfl
theorem normR_r4 (a : Nat) (h0 : 0 < a) (ha : a ≤ 65531) : normR (r4 a) = r4 a := by
  unfold normR r4
  simp only [List.map_cons, List.map_nil]
  rw [normI_z a h0 (by omega), normI_z 65531 (by omega) (by omega)]
theorem slS_r4 (a : Nat) : slS (r4 a) = .sl 3 8 [.int .i64 1, .int .i64 49185, .sl 1 a (zrow a), .int .i64 1, .int .i64 49185, .sl 1 65531 (zrow 65531), .int .i64 1, .int .i64 49185, .sl 1 65531 (zrow 65531), .int .i64 1, .int .i64 49185, .sl 1 65531 (zrow 65531), .int .i64 1, .int .i64 49185, .sl 1 65531 (zrow 65531), .int .i64 1, .int .i64 49185, .sl 1 65531 (zrow 65531), .int .i64 1, .int .i64 49185, .sl 1 65531 (zrow 65531), .int .i64 1, .int .i64 49185, .sl 1 65531 (zrow 65531)] := by
  unfold slS r4
  rw [if_neg (by simp)]
  rfl
theorem slC_r4 (a : Nat) : slC (r4 a) = .nilsl := rfl
theorem put_big (a : Nat) (h0 : 0 < a) (ha : a ≤ 65531) (h : 1048576 < 2 * a + 917576) : putV (r4 a) = .tuple [.str [], .int .i64 4] := by
  unfold putV
  rw [if_pos (r4_may a ha), r4_len a h0 ha, if_pos h]
theorem put_small (a : Nat) (h0 : 0 < a) (ha : a ≤ 65531) (h : ¬ 1048576 < 2 * a + 917576) : putV (r4 a) = .tuple [.str (textOf (r4 a)), .int .i64 0] := by
  unfold putV
  rw [if_pos (r4_may a ha), r4_len a h0 ha, if_neg h]
theorem get_small (a : Nat) (h0 : 0 < a) (ha : a ≤ 65531) (h : ¬ 1048576 < 2 * a + 917576) : getV (textOf (r4 a)) = okV (r4 a) := by
  have hh := get_of_put (r4_may a ha) (r4_ok a ha).1 (by rw [r4_len a h0 ha]; omega)
  rw [normR_r4 a h0 ha] at hh
  exact hh
noncomputable def K4 (q : Nat) (o : Option (Ex × St)) : Option (V × Heap) := fin X16 #[.tmp 2] 4 0 (thenK X16 (q + 20) 4 0 R4 (blockK 0 o))
theorem end4a (q m : Nat) (n : Int) (a : Nat) (h0 : 65400 ≤ a) (ha : a ≤ 65531) (h : 1048576 < 2 * a + 917576) : lastK (K4 q) (evCode X16 (m + 60) 4 0 L4 (S4 n a 8)) = some (.bool true, []) := by
  obtain ⟨rd, k8⟩ := kv8 a (by omega) ha
  have g9 := fun rec fr H => cv9err (rec := rec) fr H (zstr 1048577) zstr_long
  rw [put_big a (by omega) ha h] at k8
  have hb : (1048576 : Int) < 2 * (a : Int) + 917576 := by omega
  simp -implicitDefEqProofs [run_seq, run_then, run_then_ret, run_then_exit, run_region, run_regionK, run_cond, run_cond_true, run_cond_false, run_block, run_block_exit, run_block_ret, run_block_normal, evCode_exit, evCode_ret, evCode_skip, evRegion_seq, run_seqs, run_seqK, evSeq_zero, run_step, run_stepO, run_stepK_true, run_stepK_false, run_stepR, wantedV, evOp, evOpR, opd, putTm, putAll, ofValue, ofScalar, binV, intOp, unV, und_p, size_p, bytesOf_p, zeroV_p, aggT_p, size3, size5, size9, size22, size24, size25, size27, size28, size29, size31, size40, size42, size47, agg3, agg5, agg9, agg22, agg24, agg25, agg27, agg28, agg29, agg31, agg40, agg42, agg47, bytesOf3, bytesOf5, bytesOf9, bytesOf42, bytesOf47, zeroV3, zeroV5, zeroV9, zeroV24, zeroV27, zeroV31, zeroV42, zeroV47, Tryd.underlying3, Tryd.underlying5, Tryd.underlying9, Tryd.underlying22, Tryd.underlying24, Tryd.underlying27, Tryd.underlying28, Tryd.underlying29, Tryd.underlying31, Tryd.underlying40, Tryd.underlying42, Tryd.underlying47, Tryd.underlying51, Tryd.underlying61, Tryd.underlying78, wrapI64, builtinV, convV, len9, len_nil, len_slz, len_sl, len_msl, slT, minV, asI, asN, ce_int, ce_str, ce_bool, ce_agg, ce_msl, ce_sl, ce_nilsl, sc_int, sc_str, sc_bool, sc_msl, sc_sl, sc_nilsl, sc_slz, fillV, splice, Heap.put, Heap.get, appendV, srcCells, cellsOf, rowOf, zerosT, isIntT, isStr, maxBytes, indexAddrV, fieldAddrV, fieldOf, sliceV, storeAt, cellsAt, takeV, partV, nextV, strOp, cfst, csnd, mapHd_some, hdS_mk, canonK_some, reach_nil, reach_cons, reachGo, clearTm, refsL, V.refs, Blk.refs, renL, V.ren, Blk.ren, indexOf, subHeap, resultsR, leaveR_some, lastK_ret, lastK_exit, fin_ret, fin_normal, leave_int, leave_bool, leave_str, ext_p, XR_x, mut_p, callA_tuple, callB_some, callC_some, resolve_go, resolveK_nil, resolveK_cons, mergeAt, freezeRows, freezeRow, V.msls, mslsL, V.deep, deepL, V.resolve1, V.flat, flatL, c17, c34, c47, c71, evRegion_draw, drawK_some, run_cons, run_traceK, run_trace, run_trace0, run_traceN, run_traceC, -List.reduceReplicate, K4, R4, L4, B4, Tryd.f4, S4, zrow_eq, zrow_refs, zrow_ren, zrow_len, zrow_scalar, zrow_take, zrow_str, zrow_msls, k8, g9, eq24', sameBytes_iff, hb]
theorem end4b (q m : Nat) (n : Int) (a : Nat) (h0 : 65400 ≤ a) (ha : a ≤ 65531) (h : ¬ 1048576 < 2 * a + 917576) : lastK (K4 q) (evCode X16 (m + 60) 4 0 L4 (S4 n a 8)) = some (.bool true, []) := by
  obtain ⟨rd, k8⟩ := kv8 a (by omega) ha
  have g9 := fun rec fr H => cv9err (rec := rec) fr H (zstr 1048577) zstr_long
  have x9 := fun rec fr H => cv9ok (rec := rec) fr H (textOf (r4 a)) (get_small a (by omega) ha h)
  rw [slS_r4, slC_r4] at x9
  have hl : ((textOf (r4 a)).length : Int) = 2 * (a : Int) + 917576 := by rw [r4_len a (by omega) ha]; omega
  rw [put_small a (by omega) ha h] at k8
  have hb : ¬ (1048576 : Int) < 2 * (a : Int) + 917576 := by omega
  generalize textOf (r4 a) = T at *
  simp only [r4] at x9
  simp -implicitDefEqProofs [run_seq, run_then, run_then_ret, run_then_exit, run_region, run_regionK, run_cond, run_cond_true, run_cond_false, run_block, run_block_exit, run_block_ret, run_block_normal, evCode_exit, evCode_ret, evCode_skip, evRegion_seq, run_seqs, run_seqK, evSeq_zero, run_step, run_stepO, run_stepK_true, run_stepK_false, run_stepR, wantedV, evOp, evOpR, opd, putTm, putAll, ofValue, ofScalar, binV, intOp, unV, und_p, size_p, bytesOf_p, zeroV_p, aggT_p, size3, size5, size9, size22, size24, size25, size27, size28, size29, size31, size40, size42, size47, agg3, agg5, agg9, agg22, agg24, agg25, agg27, agg28, agg29, agg31, agg40, agg42, agg47, bytesOf3, bytesOf5, bytesOf9, bytesOf42, bytesOf47, zeroV3, zeroV5, zeroV9, zeroV24, zeroV27, zeroV31, zeroV42, zeroV47, Tryd.underlying3, Tryd.underlying5, Tryd.underlying9, Tryd.underlying22, Tryd.underlying24, Tryd.underlying27, Tryd.underlying28, Tryd.underlying29, Tryd.underlying31, Tryd.underlying40, Tryd.underlying42, Tryd.underlying47, Tryd.underlying51, Tryd.underlying61, Tryd.underlying78, wrapI64, builtinV, convV, len9, len_nil, len_slz, len_sl, len_msl, slT, minV, asI, asN, ce_int, ce_str, ce_bool, ce_agg, ce_msl, ce_sl, ce_nilsl, sc_int, sc_str, sc_bool, sc_msl, sc_sl, sc_nilsl, sc_slz, fillV, splice, Heap.put, Heap.get, appendV, srcCells, cellsOf, rowOf, zerosT, isIntT, isStr, maxBytes, indexAddrV, fieldAddrV, fieldOf, sliceV, storeAt, cellsAt, takeV, partV, nextV, strOp, cfst, csnd, mapHd_some, hdS_mk, canonK_some, reach_nil, reach_cons, reachGo, clearTm, refsL, V.refs, Blk.refs, renL, V.ren, Blk.ren, indexOf, subHeap, resultsR, leaveR_some, lastK_ret, lastK_exit, fin_ret, fin_normal, leave_int, leave_bool, leave_str, ext_p, XR_x, mut_p, callA_tuple, callB_some, callC_some, resolve_go, resolveK_nil, resolveK_cons, mergeAt, freezeRows, freezeRow, V.msls, mslsL, V.deep, deepL, V.resolve1, V.flat, flatL, c17, c34, c47, c71, evRegion_draw, drawK_some, run_cons, run_traceK, run_trace, run_trace0, run_traceN, run_traceC, -List.reduceReplicate, K4, R4, L4, B4, Tryd.f4, S4, zrow_eq, zrow_refs, zrow_ren, zrow_len, zrow_scalar, zrow_take, zrow_str, zrow_msls, k8, g9, eq24', sameBytes_iff, hb, x9, hl]
  rw [if_pos]
  rotate_left
  · kernel_rfl
  · simp -implicitDefEqProofs [run_seq, run_then, run_then_ret, run_then_exit, run_region, run_regionK, run_cond, run_cond_true, run_cond_false, run_block, run_block_exit, run_block_ret, run_block_normal, evCode_exit, evCode_ret, evCode_skip, evRegion_seq, run_seqs, run_seqK, evSeq_zero, run_step, run_stepO, run_stepK_true, run_stepK_false, run_stepR, wantedV, evOp, evOpR, opd, putTm, putAll, ofValue, ofScalar, binV, intOp, unV, und_p, size_p, bytesOf_p, zeroV_p, aggT_p, size3, size5, size9, size22, size24, size25, size27, size28, size29, size31, size40, size42, size47, agg3, agg5, agg9, agg22, agg24, agg25, agg27, agg28, agg29, agg31, agg40, agg42, agg47, bytesOf3, bytesOf5, bytesOf9, bytesOf42, bytesOf47, zeroV3, zeroV5, zeroV9, zeroV24, zeroV27, zeroV31, zeroV42, zeroV47, Tryd.underlying3, Tryd.underlying5, Tryd.underlying9, Tryd.underlying22, Tryd.underlying24, Tryd.underlying27, Tryd.underlying28, Tryd.underlying29, Tryd.underlying31, Tryd.underlying40, Tryd.underlying42, Tryd.underlying47, Tryd.underlying51, Tryd.underlying61, Tryd.underlying78, wrapI64, builtinV, convV, len9, len_nil, len_slz, len_sl, len_msl, slT, minV, asI, asN, ce_int, ce_str, ce_bool, ce_agg, ce_msl, ce_sl, ce_nilsl, sc_int, sc_str, sc_bool, sc_msl, sc_sl, sc_nilsl, sc_slz, fillV, splice, Heap.put, Heap.get, appendV, srcCells, cellsOf, rowOf, zerosT, isIntT, isStr, maxBytes, indexAddrV, fieldAddrV, fieldOf, sliceV, storeAt, cellsAt, takeV, partV, nextV, strOp, cfst, csnd, mapHd_some, hdS_mk, canonK_some, reach_nil, reach_cons, reachGo, clearTm, refsL, V.refs, Blk.refs, renL, V.ren, Blk.ren, indexOf, subHeap, resultsR, leaveR_some, lastK_ret, lastK_exit, fin_ret, fin_normal, leave_int, leave_bool, leave_str, ext_p, XR_x, mut_p, callA_tuple, callB_some, callC_some, resolve_go, resolveK_nil, resolveK_cons, mergeAt, freezeRows, freezeRow, V.msls, mslsL, V.deep, deepL, V.resolve1, V.flat, flatL, c17, c34, c47, c71, evRegion_draw, drawK_some, run_cons, run_traceK, run_trace, run_trace0, run_traceN, run_traceC, -List.reduceReplicate, K4, R4, L4, B4, Tryd.f4, S4, zrow_eq, zrow_refs, zrow_ren, zrow_len, zrow_scalar, zrow_take, zrow_str, zrow_msls, k8, g9, eq24', sameBytes_iff, hb, x9, hl]
theorem end4 (q m : Nat) (n : Int) (a : Nat) (h0 : 65400 ≤ a) (ha : a ≤ 65531) : lastK (K4 q) (evCode X16 (m + 60) 4 0 L4 (S4 n a 8)) = some (.bool true, []) := by
  by_cases h : 1048576 < 2 * a + 917576
  · exact end4a q m n a h0 ha h
  · exact end4b q m n a h0 ha h
theorem step4 (m : Nat) (n : Int) (a : Nat) (h0 : 0 ≤ n) (h1 : n < 256) (ha : (a : Int) = 65400 + n % 132) : ∀ i, i < 8 → mapHd [20, 19, 39, 38, 37, 36, 35, 34, 33, 32, 31, 30, 29, 28, 27, 26, 25, 24, 23, 22, 21, 6, 18, 17] (evCode X16 (m + 60) 4 0 L4 (S4 n a i)) = some (.normal, S4 n a (i + 1))
  | 0, _ => round4_0 m n a h0 h1 ha
  | 1, _ => round4_1 m n a h0 h1 ha
  | 2, _ => round4_2 m n a h0 h1 ha
  | 3, _ => round4_3 m n a h0 h1 ha
  | 4, _ => round4_4 m n a h0 h1 ha
  | 5, _ => round4_5 m n a h0 h1 ha
  | 6, _ => round4_6 m n a h0 h1 ha
  | 7, _ => round4_7 m n a h0 h1 ha
  | i + 8, h => by omega
theorem loop4 (q : Nat) (n : Int) (a : Nat) (h0 : 0 ≤ n) (h1 : n < 256) (ha : (a : Int) = 65400 + n % 132) (k : Nat) (hk : 8 ≤ k) (st : St) (hs : hdS [20, 19, 39, 38, 37, 36, 35, 34, 33, 32, 31, 30, 29, 28, 27, 26, 25, 24, 23, 22, 21, 6, 18, 17] st = S4 n a 0) :
    K4 q (evCode X16 (k + 60 + 1) 4 0 (.loop L4) st) = some (.bool true, []) := by
  refine loop_run clears4 (S4 n a) (fun i => i ≤ 8) (fun i => 8 - i) (fun _ => (.bool true, [])) (K4 q) 60 ?_ k 0 st (by omega) (by omega) hs
  intro i hi
  by_cases he : i = 8
  · right
    subst he
    intro m
    exact end4 q m n a (by omega) (by omega)
  · left
    exact ⟨i + 1, by omega, by omega, rfl, fun m => step4 m n a h0 h1 ha i (by omega)⟩
/-- ReportLong answers true. -/
theorem c4 (m : Nat) (n : Int) (h0 : 0 ≤ n) (h1 : n < 256) : evCall X16 (m + 100) 4 [.int .u8 n] [] = some (.bool true, []) := by
  refine call_fin (nt := 101) (res := #[.tmp 2]) rfl (fn_p Tryd.func4) shape4 rfl rfl ?_
  simp -implicitDefEqProofs [run_seq, run_then, run_then_ret, run_then_exit, run_region, run_regionK, run_cond, run_cond_true, run_cond_false, run_block, run_block_exit, run_block_ret, run_block_normal, evCode_exit, evCode_ret, evCode_skip, evRegion_seq, run_seqs, run_seqK, evSeq_zero, run_step, run_stepO, run_stepK_true, run_stepK_false, run_stepR, wantedV, evOp, evOpR, opd, putTm, putAll, ofValue, ofScalar, binV, intOp, unV, und_p, size_p, bytesOf_p, zeroV_p, aggT_p, size3, size5, size9, size22, size24, size25, size27, size28, size29, size31, size40, size42, size47, agg3, agg5, agg9, agg22, agg24, agg25, agg27, agg28, agg29, agg31, agg40, agg42, agg47, bytesOf3, bytesOf5, bytesOf9, bytesOf42, bytesOf47, zeroV3, zeroV5, zeroV9, zeroV24, zeroV27, zeroV31, zeroV42, zeroV47, Tryd.underlying3, Tryd.underlying5, Tryd.underlying9, Tryd.underlying22, Tryd.underlying24, Tryd.underlying27, Tryd.underlying28, Tryd.underlying29, Tryd.underlying31, Tryd.underlying40, Tryd.underlying42, Tryd.underlying47, Tryd.underlying51, Tryd.underlying61, Tryd.underlying78, wrapI64, builtinV, convV, len9, len_nil, len_slz, len_sl, len_msl, slT, minV, asI, asN, ce_int, ce_str, ce_bool, ce_agg, ce_msl, ce_sl, ce_nilsl, sc_int, sc_str, sc_bool, sc_msl, sc_sl, sc_nilsl, sc_slz, fillV, splice, Heap.put, Heap.get, appendV, srcCells, cellsOf, rowOf, zerosT, isIntT, isStr, maxBytes, indexAddrV, fieldAddrV, fieldOf, sliceV, storeAt, cellsAt, takeV, partV, nextV, strOp, cfst, csnd, mapHd_some, hdS_mk, canonK_some, reach_nil, reach_cons, reachGo, clearTm, refsL, V.refs, Blk.refs, renL, V.ren, Blk.ren, indexOf, subHeap, resultsR, leaveR_some, lastK_ret, lastK_exit, fin_ret, fin_normal, leave_int, leave_bool, leave_str, ext_p, XR_x, mut_p, callA_tuple, callB_some, callC_some, resolve_go, resolveK_nil, resolveK_cons, mergeAt, freezeRows, freezeRow, V.msls, mslsL, V.deep, deepL, V.resolve1, V.flat, flatL, c17, c34, c47, c71, evRegion_draw, drawK_some, run_cons, run_traceK, run_trace, run_trace0, run_traceN, run_traceC, cv6, B4, Tryd.f4]
  have hh := loop4 (m + 75) n (65400 + n % 132).toNat h0 h1 (by omega) (m + 32) (by omega)
  unfold K4 at hh
  refine hh _ ?_
  simp -implicitDefEqProofs [mapHd_some, hdS_mk, canonK_some, reach_nil, reach_cons, reachGo, clearTm, refsL, V.refs, Blk.refs, renL, V.ren, Blk.ren, indexOf, subHeap, Heap.get, S4]
end Go.Ev
