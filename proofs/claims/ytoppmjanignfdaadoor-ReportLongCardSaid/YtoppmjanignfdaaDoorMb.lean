/- A part of the proof of ReportBack (the second form: what is handed in is of bulk at most 1048576): no statement of the seat's stands here. -/
import Derived.Test.YtoppmjanignfdaaDoorMa
set_option linter.unusedSectionVars false
set_option linter.unusedSimpArgs false
set_option linter.unusedVariables false
set_option linter.all false
set_option linter.unusedVariables false
set_option linter.unusedSimpArgs false
set_option linter.unusedSectionVars false
set_option maxRecDepth 100000
set_option maxHeartbeats 8000000
namespace Go.Ev
open Go Go.Proofs
/- a text's length -/
theorem join4 (a b c d : List UInt8) : (Lib.join [a, b, c, d] [32]).length = a.length + b.length + c.length + d.length + 3 := by
  rw [join_cons, join_cons, join_cons, join_one]
  simp
  omega
theorem unl_bound (m : Nat) : ∀ ls : List (List UInt8), (∀ l ∈ ls, l.length ≤ m) → (unl ls).length ≤ ls.length * (m + 1)
  | [], _ => by simp [unl]
  | x :: r, h => by
    have h1 := h x List.mem_cons_self
    have h2 := unl_bound m r fun l hl => h l (List.mem_cons_of_mem _ hl)
    rw [unl_cons]
    simp only [List.length_append, List.length_cons]
    rw [Nat.add_mul]
    omega
theorem item_bound {t : Itm} (h : t.ok) : (itemL t).length ≤ 200000001000 := by
  unfold itemL itemS
  rw [join4]
  have h1 : (dirS t.d).length ≤ 3 := by unfold dirS; split <;> decide
  have h2 := hexS_len t.p
  have h3 : (dataS t.bytes).length ≤ 200000000000 := by
    unfold dataS
    have := (bytes_range h).2
    split
    · simp
    · simp [toBytes, hexI_len]; omega
  have h4 : bItem.length = 4 := rfl
  omega
theorem cell_bound (t : Cel) : (cellL t).length ≤ 200000001000 := by
  unfold cellL
  rw [join4]
  have h1 := hexS_len t.p
  have h2 := decS_len t.s
  have h3 := decS_len t.e
  have h4 : bCell.length = 4 := rfl
  omega
theorem told_bound (k a fa fe : Int) : (toldS k a fa fe).length ≤ 1000 := by
  have h1 := decS_len a
  have h2 := decS_len fa
  have h3 := decS_len fe
  unfold toldS
  split
  · decide
  · split
    · simp [bReject]; omega
    · simp [bMal]; omega
theorem text_bound {r : Rep} (hok : ∀ t ∈ r.short, t.ok) (hf : fewR r = true) : (textOf r).length ≤ 140737488355328 := by
  unfold fewR fewB at hf
  simp only [Bool.and_eq_true, decide_eq_true_eq] at hf
  obtain ⟨⟨h1, _⟩, h2⟩ := hf
  rw [textOf_unl]
  have hb := unl_bound 200000001000 (linesOf r ++ [bEnd]) (by
    intro l hl
    rcases List.mem_append.1 hl with hl | hl
    · unfold linesOf at hl
      rcases List.mem_append.1 hl with hl | hl
      · rcases List.mem_append.1 hl with hl | hl
        · unfold headL at hl
          rcases List.mem_cons.1 hl with rfl | hl
          · decide
          rcases List.mem_cons.1 hl with rfl | hl
          · have := decS_len r.items
            simp [bItems]; omega
          rcases List.mem_cons.1 hl with rfl | hl
          · have := told_bound r.k r.a r.fa r.fe; omega
          · cases hl
        · obtain ⟨t, ht, rfl⟩ := List.mem_map.1 hl
          exact item_bound (hok t ht)
      · obtain ⟨t, ht, rfl⟩ := List.mem_map.1 hl
        exact cell_bound t
    · simp only [List.mem_singleton] at hl
      subst hl
      decide)
  have hn : (linesOf r ++ [bEnd]).length = 3 + r.short.length + r.cells.length + 1 := by simp [linesOf, headL]; omega
  rw [hn] at hb
  have : (3 + r.short.length + r.cells.length + 1) * (200000001000 + 1) ≤ 464 * (200000001000 + 1) := Nat.mul_le_mul_right _ (by omega)
  omega
theorem rep_parts {v : V} {r : Rep} (h : repOf v = some r) : ∃ wit short cells, v = .agg [.int .i64 r.k, .int .i64 r.a, .int .i64 r.fa, .int .i64 r.fe, wit, .int .i64 r.items, short, cells] ∧ wit.scalar = true ∧ short.scalar = true ∧ cells.scalar = true ∧ (∀ t ∈ r.short, t.ok) ∧ r.short.length ≤ 2000000 ∧ r.cells.length ≤ 2000000 := by
  unfold repOf at h
  split at h
  · rename_i k a fa fe wit items short cells
    split at h
    · rename_i l c hl hc
      split at h
      · rename_i hw
        cases h
        simp only [witOk, Bool.and_eq_true] at hw
        obtain ⟨hs, _, hsb, hk, _⟩ := itemsOf_some hl
        obtain ⟨hcs, _, hcb, _⟩ := cellsOfV_some hc
        exact ⟨wit, short, cells, rfl, hw.1.1, hs.1, hcs.1, hk, hsb, hcb⟩
      · cases h
    · cases h
  · cases h
theorem put_cases (r : Rep) : ∃ (x : List UInt8) (e : Int), putV r = .tuple [.str x, .int .i64 e] ∧ (e = 0 → mayB r = true ∧ x = textOf r ∧ (textOf r).length ≤ 1048576) := by
  unfold putV
  split
  · rename_i h
    split
    · exact ⟨_, _, rfl, fun h => by cases h⟩
    · exact ⟨_, _, rfl, fun _ => ⟨h, rfl, by omega⟩⟩
  · exact ⟨_, _, rfl, fun h => by cases h⟩
theorem eq24' (a b c d : Int) : equalV X16 24 (.agg [.int .i64 a, .int .i64 b]) (.agg [.int .i64 c, .int .i64 d]) = some (decide (a = c) && decide (b = d)) := eq24 a b c d
theorem eqB16 (a b : Bool) : equalV X16 4 (.bool a) (.bool b) = some (a == b) := by
  unfold equalV eqAt; rw [und_p, Tryd.underlying4]; rfl
theorem cv9err {rec : FuncId → Nat → Code → St → Option (Ex × St)} (fr : Nat → Nat) (H : Heap) (s : List UInt8) {a e : Int} (h : getV s = errV a e) : callV X16 (callWith X16 rec) 9 [.str s] fr H = some { v := .tuple [.agg [.int .i64 0, .int .i64 0, .int .i64 0, .int .i64 0, .nilsl, .int .i64 0, .nilsl, .nilsl], .agg [.int .i64 a, .int .i64 e]] } := by
  rw [cv9, h]; rfl
theorem cv9ok {rec : FuncId → Nat → Code → St → Option (Ex × St)} (fr : Nat → Nat) (H : Heap) (s : List UInt8) {w : Rep} (h : getV s = okV w) : callV X16 (callWith X16 rec) 9 [.str s] fr H = some { v := .tuple [.agg [.int .i64 w.k, .int .i64 w.a, .int .i64 w.fa, .int .i64 w.fe, .nilsl, .int .i64 w.items, slS w, slC w], .agg [.int .i64 0, .int .i64 0]] } := by
  rw [cv9, h]; rfl
/-- ReportBack answers true. -/
theorem c3 (m : Nat) (v u : V) (s : List UInt8) (r q : Rep) (hv : repOf v = some r) (hu : repOf u = some q) : evCall X16 (m + 60) 3 [v, u, .str s] [] = some (.bool true, []) := by
  refine call_fin (nt := 104) (res := #[.tmp 6]) rfl (fn_p Tryd.func3) (by rw [Tryd.f3]) rfl rfl ?_
  obtain ⟨wv, sv, cv, ev, v1, v2, v3, vok, vs, vc⟩ := rep_parts hv
  obtain ⟨wu, su, cu, eu, u1, u2, u3, uok, us, uc⟩ := rep_parts hu
  have k7 := fun m fr H => cv7 fr H m hv
  have k7' := fun m fr H => cv7 fr H m hu
  subst ev eu
  cases f1 : fewR r
  · rw [f1] at k7
    simp -implicitDefEqProofs [run_seq, run_then, run_then_ret, run_then_exit, run_region, run_regionK, run_cond, run_cond_true, run_cond_false, run_block, run_block_exit, run_block_ret, run_block_normal, evCode_exit, evCode_ret, evCode_skip, evRegion_seq, run_seqs, run_seqK, evSeq_zero, run_step, run_stepO, run_stepK_true, run_stepK_false, run_stepR, wantedV, evOp, evOpR, opd, putTm, putAll, ofValue, ofScalar, binV, intOp, unV, und_p, size_p, bytesOf_p, zeroV_p, aggT_p, size3, size5, size9, size22, size24, size25, size27, size28, size29, size31, size40, size42, size47, agg3, agg5, agg9, agg22, agg24, agg25, agg27, agg28, agg29, agg31, agg40, agg42, agg47, bytesOf3, bytesOf5, bytesOf9, bytesOf42, bytesOf47, zeroV3, zeroV5, zeroV9, zeroV24, zeroV27, zeroV31, zeroV42, zeroV47, Tryd.underlying3, Tryd.underlying5, Tryd.underlying9, Tryd.underlying22, Tryd.underlying24, Tryd.underlying27, Tryd.underlying28, Tryd.underlying29, Tryd.underlying31, Tryd.underlying40, Tryd.underlying42, Tryd.underlying47, Tryd.underlying51, Tryd.underlying61, Tryd.underlying78, wrapI64, builtinV, convV, len9, len_nil, len_slz, len_sl, len_msl, slT, minV, asI, asN, ce_int, ce_str, ce_bool, ce_agg, ce_msl, ce_sl, ce_nilsl, sc_int, sc_str, sc_bool, sc_msl, sc_sl, sc_nilsl, sc_slz, fillV, splice, Heap.put, Heap.get, appendV, srcCells, cellsOf, rowOf, zerosT, isIntT, isStr, maxBytes, indexAddrV, fieldAddrV, fieldOf, sliceV, storeAt, cellsAt, takeV, partV, nextV, strOp, cfst, csnd, mapHd_some, hdS_mk, canonK_some, reach_nil, reach_cons, reachGo, clearTm, refsL, V.refs, Blk.refs, renL, V.ren, Blk.ren, indexOf, subHeap, resultsR, leaveR_some, lastK_ret, lastK_exit, fin_ret, fin_normal, leave_int, leave_bool, leave_str, ext_p, XR_x, mut_p, callA_tuple, callB_some, callC_some, resolve_go, resolveK_nil, resolveK_cons, mergeAt, freezeRows, freezeRow, V.msls, mslsL, V.deep, deepL, V.resolve1, V.flat, flatL, c17, c34, c47, c71, evRegion_draw, drawK_some, run_cons, run_traceK, run_trace, run_trace0, run_traceN, run_traceC, cv6, k7, v1, v2, v3, u1, u2, u3]
  · rw [f1] at k7
    cases f2 : fewR q
    · rw [f2] at k7'
      simp -implicitDefEqProofs [run_seq, run_then, run_then_ret, run_then_exit, run_region, run_regionK, run_cond, run_cond_true, run_cond_false, run_block, run_block_exit, run_block_ret, run_block_normal, evCode_exit, evCode_ret, evCode_skip, evRegion_seq, run_seqs, run_seqK, evSeq_zero, run_step, run_stepO, run_stepK_true, run_stepK_false, run_stepR, wantedV, evOp, evOpR, opd, putTm, putAll, ofValue, ofScalar, binV, intOp, unV, und_p, size_p, bytesOf_p, zeroV_p, aggT_p, size3, size5, size9, size22, size24, size25, size27, size28, size29, size31, size40, size42, size47, agg3, agg5, agg9, agg22, agg24, agg25, agg27, agg28, agg29, agg31, agg40, agg42, agg47, bytesOf3, bytesOf5, bytesOf9, bytesOf42, bytesOf47, zeroV3, zeroV5, zeroV9, zeroV24, zeroV27, zeroV31, zeroV42, zeroV47, Tryd.underlying3, Tryd.underlying5, Tryd.underlying9, Tryd.underlying22, Tryd.underlying24, Tryd.underlying27, Tryd.underlying28, Tryd.underlying29, Tryd.underlying31, Tryd.underlying40, Tryd.underlying42, Tryd.underlying47, Tryd.underlying51, Tryd.underlying61, Tryd.underlying78, wrapI64, builtinV, convV, len9, len_nil, len_slz, len_sl, len_msl, slT, minV, asI, asN, ce_int, ce_str, ce_bool, ce_agg, ce_msl, ce_sl, ce_nilsl, sc_int, sc_str, sc_bool, sc_msl, sc_sl, sc_nilsl, sc_slz, fillV, splice, Heap.put, Heap.get, appendV, srcCells, cellsOf, rowOf, zerosT, isIntT, isStr, maxBytes, indexAddrV, fieldAddrV, fieldOf, sliceV, storeAt, cellsAt, takeV, partV, nextV, strOp, cfst, csnd, mapHd_some, hdS_mk, canonK_some, reach_nil, reach_cons, reachGo, clearTm, refsL, V.refs, Blk.refs, renL, V.ren, Blk.ren, indexOf, subHeap, resultsR, leaveR_some, lastK_ret, lastK_exit, fin_ret, fin_normal, leave_int, leave_bool, leave_str, ext_p, XR_x, mut_p, callA_tuple, callB_some, callC_some, resolve_go, resolveK_nil, resolveK_cons, mergeAt, freezeRows, freezeRow, V.msls, mslsL, V.deep, deepL, V.resolve1, V.flat, flatL, c17, c34, c47, c71, evRegion_draw, drawK_some, run_cons, run_traceK, run_trace, run_trace0, run_traceN, run_traceC, cv6, k7, k7', v1, v2, v3, u1, u2, u3]
    · rw [f2] at k7'
      by_cases hl : (20000 : Int) < s.length
      · simp -implicitDefEqProofs [run_seq, run_then, run_then_ret, run_then_exit, run_region, run_regionK, run_cond, run_cond_true, run_cond_false, run_block, run_block_exit, run_block_ret, run_block_normal, evCode_exit, evCode_ret, evCode_skip, evRegion_seq, run_seqs, run_seqK, evSeq_zero, run_step, run_stepO, run_stepK_true, run_stepK_false, run_stepR, wantedV, evOp, evOpR, opd, putTm, putAll, ofValue, ofScalar, binV, intOp, unV, und_p, size_p, bytesOf_p, zeroV_p, aggT_p, size3, size5, size9, size22, size24, size25, size27, size28, size29, size31, size40, size42, size47, agg3, agg5, agg9, agg22, agg24, agg25, agg27, agg28, agg29, agg31, agg40, agg42, agg47, bytesOf3, bytesOf5, bytesOf9, bytesOf42, bytesOf47, zeroV3, zeroV5, zeroV9, zeroV24, zeroV27, zeroV31, zeroV42, zeroV47, Tryd.underlying3, Tryd.underlying5, Tryd.underlying9, Tryd.underlying22, Tryd.underlying24, Tryd.underlying27, Tryd.underlying28, Tryd.underlying29, Tryd.underlying31, Tryd.underlying40, Tryd.underlying42, Tryd.underlying47, Tryd.underlying51, Tryd.underlying61, Tryd.underlying78, wrapI64, builtinV, convV, len9, len_nil, len_slz, len_sl, len_msl, slT, minV, asI, asN, ce_int, ce_str, ce_bool, ce_agg, ce_msl, ce_sl, ce_nilsl, sc_int, sc_str, sc_bool, sc_msl, sc_sl, sc_nilsl, sc_slz, fillV, splice, Heap.put, Heap.get, appendV, srcCells, cellsOf, rowOf, zerosT, isIntT, isStr, maxBytes, indexAddrV, fieldAddrV, fieldOf, sliceV, storeAt, cellsAt, takeV, partV, nextV, strOp, cfst, csnd, mapHd_some, hdS_mk, canonK_some, reach_nil, reach_cons, reachGo, clearTm, refsL, V.refs, Blk.refs, renL, V.ren, Blk.ren, indexOf, subHeap, resultsR, leaveR_some, lastK_ret, lastK_exit, fin_ret, fin_normal, leave_int, leave_bool, leave_str, ext_p, XR_x, mut_p, callA_tuple, callB_some, callC_some, resolve_go, resolveK_nil, resolveK_cons, mergeAt, freezeRows, freezeRow, V.msls, mslsL, V.deep, deepL, V.resolve1, V.flat, flatL, c17, c34, c47, c71, evRegion_draw, drawK_some, run_cons, run_traceK, run_trace, run_trace0, run_traceN, run_traceC, cv6, k7, k7', v1, v2, v3, u1, u2, u3, hl]
      · have tv := text_bound vok f1
        have tu := text_bound uok f2
        have k8 := fun rec fr H => cv8 (rec := rec) fr H hv tv
        have k8' := fun rec fr H => cv8 (rec := rec) fr H hu tu
        obtain ⟨x, e, px, pe⟩ := put_cases r
        obtain ⟨y, f, py, pf⟩ := put_cases q
        rw [px] at k8
        rw [py] at k8'
        have k10 := fun m fr H => cv10 fr H m hv hu
        have kz := fun m fr H => cv10 fr H m repOf_zero repOf_zero
        unfold z8 at kz
        rw [show sameR rep0 rep0 = true by decide] at kz
        have rv : RepOk r := by
          unfold fewR fewB at f1
          simp only [Bool.and_eq_true, decide_eq_true_eq] at f1
          exact ⟨vok, by omega, by omega⟩
        have rq : RepOk q := by
          unfold fewR fewB at f2
          simp only [Bool.and_eq_true, decide_eq_true_eq] at f2
          exact ⟨uok, by omega, by omega⟩
        cases e0 : decide (e = 0)
        · have e0' : ¬ e = 0 := by simpa using e0
          rcases get_inv s with ⟨w, gw, mw, tw, okw⟩ | ⟨a, e', ge, ne, le⟩
          · obtain ⟨s1, s2, s3⟩ := slS_flat okw.1
            obtain ⟨d1, d2, d3⟩ := slC_flat w
            have g9 := fun rec fr H => cv9ok (rec := rec) fr H s gw
            have hsl : s.length ≤ 20000 := by omega
            have g8 := fun rec fr H => cv8 (rec := rec) fr H (repOf_ok okw) (by rw [tw]; omega)
            have gp : putV w = .tuple [.str s, .int .i64 0] := by
              unfold putV
              rw [if_pos mw, if_neg (by rw [tw]; omega), tw]
            rw [gp] at g8
            simp -implicitDefEqProofs [run_seq, run_then, run_then_ret, run_then_exit, run_region, run_regionK, run_cond, run_cond_true, run_cond_false, run_block, run_block_exit, run_block_ret, run_block_normal, evCode_exit, evCode_ret, evCode_skip, evRegion_seq, run_seqs, run_seqK, evSeq_zero, run_step, run_stepO, run_stepK_true, run_stepK_false, run_stepR, wantedV, evOp, evOpR, opd, putTm, putAll, ofValue, ofScalar, binV, intOp, unV, und_p, size_p, bytesOf_p, zeroV_p, aggT_p, size3, size5, size9, size22, size24, size25, size27, size28, size29, size31, size40, size42, size47, agg3, agg5, agg9, agg22, agg24, agg25, agg27, agg28, agg29, agg31, agg40, agg42, agg47, bytesOf3, bytesOf5, bytesOf9, bytesOf42, bytesOf47, zeroV3, zeroV5, zeroV9, zeroV24, zeroV27, zeroV31, zeroV42, zeroV47, Tryd.underlying3, Tryd.underlying5, Tryd.underlying9, Tryd.underlying22, Tryd.underlying24, Tryd.underlying27, Tryd.underlying28, Tryd.underlying29, Tryd.underlying31, Tryd.underlying40, Tryd.underlying42, Tryd.underlying47, Tryd.underlying51, Tryd.underlying61, Tryd.underlying78, wrapI64, builtinV, convV, len9, len_nil, len_slz, len_sl, len_msl, slT, minV, asI, asN, ce_int, ce_str, ce_bool, ce_agg, ce_msl, ce_sl, ce_nilsl, sc_int, sc_str, sc_bool, sc_msl, sc_sl, sc_nilsl, sc_slz, fillV, splice, Heap.put, Heap.get, appendV, srcCells, cellsOf, rowOf, zerosT, isIntT, isStr, maxBytes, indexAddrV, fieldAddrV, fieldOf, sliceV, storeAt, cellsAt, takeV, partV, nextV, strOp, cfst, csnd, mapHd_some, hdS_mk, canonK_some, reach_nil, reach_cons, reachGo, clearTm, refsL, V.refs, Blk.refs, renL, V.ren, Blk.ren, indexOf, subHeap, resultsR, leaveR_some, lastK_ret, lastK_exit, fin_ret, fin_normal, leave_int, leave_bool, leave_str, ext_p, XR_x, mut_p, callA_tuple, callB_some, callC_some, resolve_go, resolveK_nil, resolveK_cons, mergeAt, freezeRows, freezeRow, V.msls, mslsL, V.deep, deepL, V.resolve1, V.flat, flatL, c17, c34, c47, c71, evRegion_draw, drawK_some, run_cons, run_traceK, run_trace, run_trace0, run_traceN, run_traceC, cv6, k7, k7', k8, k8', k10, v1, v2, v3, u1, u2, u3, hl, eq24', eqB16, sameBytes_iff, g9, g8, s1, s2, s3, d1, d2, d3, e0, e0']
          · have g9 := fun rec fr H => cv9err (rec := rec) fr H s ge
            have ne' : decide (e' = 0) = false := by simpa using ne
            have le' : (a : Int) ≤ s.length := by omega
            simp -implicitDefEqProofs [run_seq, run_then, run_then_ret, run_then_exit, run_region, run_regionK, run_cond, run_cond_true, run_cond_false, run_block, run_block_exit, run_block_ret, run_block_normal, evCode_exit, evCode_ret, evCode_skip, evRegion_seq, run_seqs, run_seqK, evSeq_zero, run_step, run_stepO, run_stepK_true, run_stepK_false, run_stepR, wantedV, evOp, evOpR, opd, putTm, putAll, ofValue, ofScalar, binV, intOp, unV, und_p, size_p, bytesOf_p, zeroV_p, aggT_p, size3, size5, size9, size22, size24, size25, size27, size28, size29, size31, size40, size42, size47, agg3, agg5, agg9, agg22, agg24, agg25, agg27, agg28, agg29, agg31, agg40, agg42, agg47, bytesOf3, bytesOf5, bytesOf9, bytesOf42, bytesOf47, zeroV3, zeroV5, zeroV9, zeroV24, zeroV27, zeroV31, zeroV42, zeroV47, Tryd.underlying3, Tryd.underlying5, Tryd.underlying9, Tryd.underlying22, Tryd.underlying24, Tryd.underlying27, Tryd.underlying28, Tryd.underlying29, Tryd.underlying31, Tryd.underlying40, Tryd.underlying42, Tryd.underlying47, Tryd.underlying51, Tryd.underlying61, Tryd.underlying78, wrapI64, builtinV, convV, len9, len_nil, len_slz, len_sl, len_msl, slT, minV, asI, asN, ce_int, ce_str, ce_bool, ce_agg, ce_msl, ce_sl, ce_nilsl, sc_int, sc_str, sc_bool, sc_msl, sc_sl, sc_nilsl, sc_slz, fillV, splice, Heap.put, Heap.get, appendV, srcCells, cellsOf, rowOf, zerosT, isIntT, isStr, maxBytes, indexAddrV, fieldAddrV, fieldOf, sliceV, storeAt, cellsAt, takeV, partV, nextV, strOp, cfst, csnd, mapHd_some, hdS_mk, canonK_some, reach_nil, reach_cons, reachGo, clearTm, refsL, V.refs, Blk.refs, renL, V.ren, Blk.ren, indexOf, subHeap, resultsR, leaveR_some, lastK_ret, lastK_exit, fin_ret, fin_normal, leave_int, leave_bool, leave_str, ext_p, XR_x, mut_p, callA_tuple, callB_some, callC_some, resolve_go, resolveK_nil, resolveK_cons, mergeAt, freezeRows, freezeRow, V.msls, mslsL, V.deep, deepL, V.resolve1, V.flat, flatL, c17, c34, c47, c71, evRegion_draw, drawK_some, run_cons, run_traceK, run_trace, run_trace0, run_traceN, run_traceC, cv6, k7, k7', k8, k8', k10, v1, v2, v3, u1, u2, u3, hl, eq24', eqB16, sameBytes_iff, g9, kz, ne', le', e0, e0']
        · have e0' : e = 0 := by simpa using e0
          obtain ⟨p1, p2, p3⟩ := pe e0'
          have gg := get_of_put p1 vok p3
          rw [← p2] at gg
          have nok : RepOk (normR r) := by
            refine ⟨?_, by simpa [normR] using rv.2.1, rv.2.2⟩
            intro t ht
            obtain ⟨z, hz, rfl⟩ := List.mem_map.1 ht
            exact (normI_bytes (rv.1 z hz)).2
          have x9 := fun rec fr H => cv9ok (rec := rec) fr H x gg
          have x10 := fun m fr H => cv10 fr H m (repOf_ok nok) hv
          rw [sameR_norm vok] at x10
          obtain ⟨n1, n2, n3⟩ := slS_flat nok.1
          obtain ⟨c1, c2, c3⟩ := slC_flat (normR r)
          cases f0 : decide (f = 0)
          · have f0' : ¬ f = 0 := by simpa using f0
            rcases get_inv s with ⟨w, gw, mw, tw, okw⟩ | ⟨a, e', ge, ne, le⟩
            · obtain ⟨s1, s2, s3⟩ := slS_flat okw.1
              obtain ⟨d1, d2, d3⟩ := slC_flat w
              have g9 := fun rec fr H => cv9ok (rec := rec) fr H s gw
              have hsl : s.length ≤ 20000 := by omega
              have g8 := fun rec fr H => cv8 (rec := rec) fr H (repOf_ok okw) (by rw [tw]; omega)
              have gp : putV w = .tuple [.str s, .int .i64 0] := by
                unfold putV
                rw [if_pos mw, if_neg (by rw [tw]; omega), tw]
              rw [gp] at g8
              simp -implicitDefEqProofs [run_seq, run_then, run_then_ret, run_then_exit, run_region, run_regionK, run_cond, run_cond_true, run_cond_false, run_block, run_block_exit, run_block_ret, run_block_normal, evCode_exit, evCode_ret, evCode_skip, evRegion_seq, run_seqs, run_seqK, evSeq_zero, run_step, run_stepO, run_stepK_true, run_stepK_false, run_stepR, wantedV, evOp, evOpR, opd, putTm, putAll, ofValue, ofScalar, binV, intOp, unV, und_p, size_p, bytesOf_p, zeroV_p, aggT_p, size3, size5, size9, size22, size24, size25, size27, size28, size29, size31, size40, size42, size47, agg3, agg5, agg9, agg22, agg24, agg25, agg27, agg28, agg29, agg31, agg40, agg42, agg47, bytesOf3, bytesOf5, bytesOf9, bytesOf42, bytesOf47, zeroV3, zeroV5, zeroV9, zeroV24, zeroV27, zeroV31, zeroV42, zeroV47, Tryd.underlying3, Tryd.underlying5, Tryd.underlying9, Tryd.underlying22, Tryd.underlying24, Tryd.underlying27, Tryd.underlying28, Tryd.underlying29, Tryd.underlying31, Tryd.underlying40, Tryd.underlying42, Tryd.underlying47, Tryd.underlying51, Tryd.underlying61, Tryd.underlying78, wrapI64, builtinV, convV, len9, len_nil, len_slz, len_sl, len_msl, slT, minV, asI, asN, ce_int, ce_str, ce_bool, ce_agg, ce_msl, ce_sl, ce_nilsl, sc_int, sc_str, sc_bool, sc_msl, sc_sl, sc_nilsl, sc_slz, fillV, splice, Heap.put, Heap.get, appendV, srcCells, cellsOf, rowOf, zerosT, isIntT, isStr, maxBytes, indexAddrV, fieldAddrV, fieldOf, sliceV, storeAt, cellsAt, takeV, partV, nextV, strOp, cfst, csnd, mapHd_some, hdS_mk, canonK_some, reach_nil, reach_cons, reachGo, clearTm, refsL, V.refs, Blk.refs, renL, V.ren, Blk.ren, indexOf, subHeap, resultsR, leaveR_some, lastK_ret, lastK_exit, fin_ret, fin_normal, leave_int, leave_bool, leave_str, ext_p, XR_x, mut_p, callA_tuple, callB_some, callC_some, resolve_go, resolveK_nil, resolveK_cons, mergeAt, freezeRows, freezeRow, V.msls, mslsL, V.deep, deepL, V.resolve1, V.flat, flatL, c17, c34, c47, c71, evRegion_draw, drawK_some, run_cons, run_traceK, run_trace, run_trace0, run_traceN, run_traceC, cv6, k7, k7', k8, k8', k10, v1, v2, v3, u1, u2, u3, hl, eq24', eqB16, sameBytes_iff, g9, g8, s1, s2, s3, d1, d2, d3, e0, e0', f0, f0', x9, x10, n1, n2, n3, c1, c2, c3]
            · have g9 := fun rec fr H => cv9err (rec := rec) fr H s ge
              have ne' : decide (e' = 0) = false := by simpa using ne
              have le' : (a : Int) ≤ s.length := by omega
              simp -implicitDefEqProofs [run_seq, run_then, run_then_ret, run_then_exit, run_region, run_regionK, run_cond, run_cond_true, run_cond_false, run_block, run_block_exit, run_block_ret, run_block_normal, evCode_exit, evCode_ret, evCode_skip, evRegion_seq, run_seqs, run_seqK, evSeq_zero, run_step, run_stepO, run_stepK_true, run_stepK_false, run_stepR, wantedV, evOp, evOpR, opd, putTm, putAll, ofValue, ofScalar, binV, intOp, unV, und_p, size_p, bytesOf_p, zeroV_p, aggT_p, size3, size5, size9, size22, size24, size25, size27, size28, size29, size31, size40, size42, size47, agg3, agg5, agg9, agg22, agg24, agg25, agg27, agg28, agg29, agg31, agg40, agg42, agg47, bytesOf3, bytesOf5, bytesOf9, bytesOf42, bytesOf47, zeroV3, zeroV5, zeroV9, zeroV24, zeroV27, zeroV31, zeroV42, zeroV47, Tryd.underlying3, Tryd.underlying5, Tryd.underlying9, Tryd.underlying22, Tryd.underlying24, Tryd.underlying27, Tryd.underlying28, Tryd.underlying29, Tryd.underlying31, Tryd.underlying40, Tryd.underlying42, Tryd.underlying47, Tryd.underlying51, Tryd.underlying61, Tryd.underlying78, wrapI64, builtinV, convV, len9, len_nil, len_slz, len_sl, len_msl, slT, minV, asI, asN, ce_int, ce_str, ce_bool, ce_agg, ce_msl, ce_sl, ce_nilsl, sc_int, sc_str, sc_bool, sc_msl, sc_sl, sc_nilsl, sc_slz, fillV, splice, Heap.put, Heap.get, appendV, srcCells, cellsOf, rowOf, zerosT, isIntT, isStr, maxBytes, indexAddrV, fieldAddrV, fieldOf, sliceV, storeAt, cellsAt, takeV, partV, nextV, strOp, cfst, csnd, mapHd_some, hdS_mk, canonK_some, reach_nil, reach_cons, reachGo, clearTm, refsL, V.refs, Blk.refs, renL, V.ren, Blk.ren, indexOf, subHeap, resultsR, leaveR_some, lastK_ret, lastK_exit, fin_ret, fin_normal, leave_int, leave_bool, leave_str, ext_p, XR_x, mut_p, callA_tuple, callB_some, callC_some, resolve_go, resolveK_nil, resolveK_cons, mergeAt, freezeRows, freezeRow, V.msls, mslsL, V.deep, deepL, V.resolve1, V.flat, flatL, c17, c34, c47, c71, evRegion_draw, drawK_some, run_cons, run_traceK, run_trace, run_trace0, run_traceN, run_traceC, cv6, k7, k7', k8, k8', k10, v1, v2, v3, u1, u2, u3, hl, eq24', eqB16, sameBytes_iff, g9, kz, ne', le', e0, e0', f0, f0', x9, x10, n1, n2, n3, c1, c2, c3]
          · have f0' : f = 0 := by simpa using f0
            obtain ⟨q1, q2, q3⟩ := pf f0'
            have hts := text_same rv rq p1 q1 p3 q3
            rw [← p2, ← q2] at hts
            have hbb : (decide (x = y) == sameR r q) = true := by rw [hts]; simp
            clear hts
            generalize sameR r q = sq at *
            generalize hdxy : decide (x = y) = dxy at *
            rcases get_inv s with ⟨w, gw, mw, tw, okw⟩ | ⟨a, e', ge, ne, le⟩
            · obtain ⟨s1, s2, s3⟩ := slS_flat okw.1
              obtain ⟨d1, d2, d3⟩ := slC_flat w
              have g9 := fun rec fr H => cv9ok (rec := rec) fr H s gw
              have hsl : s.length ≤ 20000 := by omega
              have g8 := fun rec fr H => cv8 (rec := rec) fr H (repOf_ok okw) (by rw [tw]; omega)
              have gp : putV w = .tuple [.str s, .int .i64 0] := by
                unfold putV
                rw [if_pos mw, if_neg (by rw [tw]; omega), tw]
              rw [gp] at g8
              simp -implicitDefEqProofs [run_seq, run_then, run_then_ret, run_then_exit, run_region, run_regionK, run_cond, run_cond_true, run_cond_false, run_block, run_block_exit, run_block_ret, run_block_normal, evCode_exit, evCode_ret, evCode_skip, evRegion_seq, run_seqs, run_seqK, evSeq_zero, run_step, run_stepO, run_stepK_true, run_stepK_false, run_stepR, wantedV, evOp, evOpR, opd, putTm, putAll, ofValue, ofScalar, binV, intOp, unV, und_p, size_p, bytesOf_p, zeroV_p, aggT_p, size3, size5, size9, size22, size24, size25, size27, size28, size29, size31, size40, size42, size47, agg3, agg5, agg9, agg22, agg24, agg25, agg27, agg28, agg29, agg31, agg40, agg42, agg47, bytesOf3, bytesOf5, bytesOf9, bytesOf42, bytesOf47, zeroV3, zeroV5, zeroV9, zeroV24, zeroV27, zeroV31, zeroV42, zeroV47, Tryd.underlying3, Tryd.underlying5, Tryd.underlying9, Tryd.underlying22, Tryd.underlying24, Tryd.underlying27, Tryd.underlying28, Tryd.underlying29, Tryd.underlying31, Tryd.underlying40, Tryd.underlying42, Tryd.underlying47, Tryd.underlying51, Tryd.underlying61, Tryd.underlying78, wrapI64, builtinV, convV, len9, len_nil, len_slz, len_sl, len_msl, slT, minV, asI, asN, ce_int, ce_str, ce_bool, ce_agg, ce_msl, ce_sl, ce_nilsl, sc_int, sc_str, sc_bool, sc_msl, sc_sl, sc_nilsl, sc_slz, fillV, splice, Heap.put, Heap.get, appendV, srcCells, cellsOf, rowOf, zerosT, isIntT, isStr, maxBytes, indexAddrV, fieldAddrV, fieldOf, sliceV, storeAt, cellsAt, takeV, partV, nextV, strOp, cfst, csnd, mapHd_some, hdS_mk, canonK_some, reach_nil, reach_cons, reachGo, clearTm, refsL, V.refs, Blk.refs, renL, V.ren, Blk.ren, indexOf, subHeap, resultsR, leaveR_some, lastK_ret, lastK_exit, fin_ret, fin_normal, leave_int, leave_bool, leave_str, ext_p, XR_x, mut_p, callA_tuple, callB_some, callC_some, resolve_go, resolveK_nil, resolveK_cons, mergeAt, freezeRows, freezeRow, V.msls, mslsL, V.deep, deepL, V.resolve1, V.flat, flatL, c17, c34, c47, c71, evRegion_draw, drawK_some, run_cons, run_traceK, run_trace, run_trace0, run_traceN, run_traceC, cv6, k7, k7', k8, k8', k10, v1, v2, v3, u1, u2, u3, hl, eq24', eqB16, sameBytes_iff, g9, g8, s1, s2, s3, d1, d2, d3, e0, e0', f0, f0', x9, x10, n1, n2, n3, c1, c2, c3, hdxy, hbb]
            · have g9 := fun rec fr H => cv9err (rec := rec) fr H s ge
              have ne' : decide (e' = 0) = false := by simpa using ne
              have le' : (a : Int) ≤ s.length := by omega
              simp -implicitDefEqProofs [run_seq, run_then, run_then_ret, run_then_exit, run_region, run_regionK, run_cond, run_cond_true, run_cond_false, run_block, run_block_exit, run_block_ret, run_block_normal, evCode_exit, evCode_ret, evCode_skip, evRegion_seq, run_seqs, run_seqK, evSeq_zero, run_step, run_stepO, run_stepK_true, run_stepK_false, run_stepR, wantedV, evOp, evOpR, opd, putTm, putAll, ofValue, ofScalar, binV, intOp, unV, und_p, size_p, bytesOf_p, zeroV_p, aggT_p, size3, size5, size9, size22, size24, size25, size27, size28, size29, size31, size40, size42, size47, agg3, agg5, agg9, agg22, agg24, agg25, agg27, agg28, agg29, agg31, agg40, agg42, agg47, bytesOf3, bytesOf5, bytesOf9, bytesOf42, bytesOf47, zeroV3, zeroV5, zeroV9, zeroV24, zeroV27, zeroV31, zeroV42, zeroV47, Tryd.underlying3, Tryd.underlying5, Tryd.underlying9, Tryd.underlying22, Tryd.underlying24, Tryd.underlying27, Tryd.underlying28, Tryd.underlying29, Tryd.underlying31, Tryd.underlying40, Tryd.underlying42, Tryd.underlying47, Tryd.underlying51, Tryd.underlying61, Tryd.underlying78, wrapI64, builtinV, convV, len9, len_nil, len_slz, len_sl, len_msl, slT, minV, asI, asN, ce_int, ce_str, ce_bool, ce_agg, ce_msl, ce_sl, ce_nilsl, sc_int, sc_str, sc_bool, sc_msl, sc_sl, sc_nilsl, sc_slz, fillV, splice, Heap.put, Heap.get, appendV, srcCells, cellsOf, rowOf, zerosT, isIntT, isStr, maxBytes, indexAddrV, fieldAddrV, fieldOf, sliceV, storeAt, cellsAt, takeV, partV, nextV, strOp, cfst, csnd, mapHd_some, hdS_mk, canonK_some, reach_nil, reach_cons, reachGo, clearTm, refsL, V.refs, Blk.refs, renL, V.ren, Blk.ren, indexOf, subHeap, resultsR, leaveR_some, lastK_ret, lastK_exit, fin_ret, fin_normal, leave_int, leave_bool, leave_str, ext_p, XR_x, mut_p, callA_tuple, callB_some, callC_some, resolve_go, resolveK_nil, resolveK_cons, mergeAt, freezeRows, freezeRow, V.msls, mslsL, V.deep, deepL, V.resolve1, V.flat, flatL, c17, c34, c47, c71, evRegion_draw, drawK_some, run_cons, run_traceK, run_trace, run_trace0, run_traceN, run_traceC, cv6, k7, k7', k8, k8', k10, v1, v2, v3, u1, u2, u3, hl, eq24', eqB16, sameBytes_iff, g9, kz, ne', le', e0, e0', f0, f0', x9, x10, n1, n2, n3, c1, c2, c3, hdxy, hbb]
end Go.Ev
