/- A part of the proof of ReportBack (the second form: what is handed in is of bulk at most 1048576): no statement of the seat's stands here. -/
import Derived.Test.YtoppmjanignfdaaDoorRl
set_option linter.unusedSectionVars false
set_option linter.unusedSimpArgs false
set_option linter.unusedVariables false
set_option linter.all false
set_option linter.unusedVariables false
set_option linter.unusedSimpArgs false
set_option linter.unusedSectionVars false
set_option maxRecDepth 100000
set_option maxHeartbeats 4000000
namespace Go.Ev
open Go Go.Proofs
theorem strsV_get (l : List (List UInt8)) (i : Nat) (hi : i < l.length) : (strsV l).drop i = .str l[i] :: strsV (l.drop (i + 1)) := by
  have hd : l.drop i = l[i] :: l.drop (i + 1) := List.drop_eq_getElem_cons hi
  show (l.map V.str).drop i = _
  rw [← List.map_drop, hd]
  rfl
/- slices.Index over texts -/
noncomputable def B58 : Code := Tryd.f58.body.getD .skip
noncomputable def L58 : Code := cfst (cfst (csnd (cfst (csnd B58))))
noncomputable def R58 : Code := csnd (csnd B58)
theorem shape58 : Tryd.f58.body = some (.seq (cfst B58) (.seq (.seq (cfst (cfst (csnd B58))) (.block 0 (.loop L58))) R58)) := by kernel_rfl
def S58 (l : List (List UInt8)) (x : List UInt8) (i : Nat) : St := ⟨[.sl 1 l.length (strsV l), .str x, .dead, .dead, .dead, .dead, .sl 1 l.length (strsV l), .int .i64 l.length, .int .i64 i] ++ List.replicate 10 .dead, []⟩
def idx58 (x : List UInt8) : List (List UInt8) → Nat → Int
  | [], _ => -1
  | t :: r, i => if x = t then i else idx58 x r (i + 1)
section
variable {X : Ctx} [h : Low X]
theorem clears58 : clears (X.keepSlots 58) L58 = [18, 4, 17, 16, 15, 14, 13, 12, 11, 5, 10, 9] := by
  rw [Prg.l]; kernel_rfl
noncomputable def K58 (X : Ctx) (q : Nat) (o : Option (Ex × St)) : Option (V × Heap) := fin X #[.tmp 4] 58 0 (thenK X (q + 20) 58 0 R58 (blockK 0 o))
theorem end58 (q m : Nat) (l : List (List UInt8)) (x : List UInt8) : lastK (K58 X q) (evCode X (m + 50) 58 0 L58 (S58 l x l.length)) = some (.int .i64 (-1), []) := by
  simp -implicitDefEqProofs [run_seq, run_then, run_then_ret, run_then_exit, run_region, run_regionK, run_cond, run_cond_true, run_cond_false, run_block, run_block_exit, run_block_ret, run_block_normal, evCode_exit, evCode_ret, evCode_skip, evRegion_seq, run_seqs, run_seqK, evSeq_zero, run_step, run_stepO, run_stepK_true, run_stepK_false, run_stepR, wantedV, evOp, evOpR, opd, putTm, putAll, ofValue, ofScalar, binV, intOp, unV, und_p, size_p, bytesOf_p, zeroV_p, aggT_p, size3, size5, size9, size22, size24, size25, size27, size28, size29, size31, size40, size42, size47, agg3, agg5, agg9, agg22, agg24, agg25, agg27, agg28, agg29, agg31, agg40, agg42, agg47, bytesOf3, bytesOf5, bytesOf9, bytesOf42, bytesOf47, zeroV3, zeroV5, zeroV9, zeroV24, zeroV27, zeroV31, zeroV42, zeroV47, Tryd.underlying3, Tryd.underlying5, Tryd.underlying9, Tryd.underlying22, Tryd.underlying24, Tryd.underlying27, Tryd.underlying28, Tryd.underlying29, Tryd.underlying31, Tryd.underlying40, Tryd.underlying42, Tryd.underlying47, Tryd.underlying51, Tryd.underlying61, Tryd.underlying78, wrapI64, builtinV, convV, len9, len_nil, len_slz, len_sl, len_msl, slT, minV, asI, asN, ce_int, ce_str, ce_bool, ce_agg, ce_msl, ce_sl, ce_nilsl, sc_int, sc_str, sc_bool, sc_msl, sc_sl, sc_nilsl, sc_slz, fillV, splice, Heap.put, Heap.get, appendV, srcCells, cellsOf, rowOf, zerosT, isIntT, isStr, maxBytes, indexAddrV, fieldAddrV, fieldOf, sliceV, storeAt, cellsAt, takeV, partV, nextV, strOp, cfst, csnd, mapHd_some, hdS_mk, canonK_some, reach_nil, reach_cons, reachGo, clearTm, refsL, V.refs, Blk.refs, renL, V.ren, Blk.ren, indexOf, subHeap, resultsR, leaveR_some, lastK_ret, lastK_exit, fin_ret, fin_normal, leave_int, leave_bool, leave_str, run_callV, ext_p, XR_x, mut_p, callA_tuple, callB_some, callC_some, resolve_go, resolveK_nil, resolveK_cons, mergeAt, freezeRows, freezeRow, V.msls, mslsL, V.deep, deepL, V.resolve1, V.flat, flatL, c17, c34, c47, c71, evRegion_draw, drawK_some, run_cons, run_traceK, run_trace, run_trace0, run_traceN, run_traceC, K58, L58, R58, B58, Tryd.f58, S58]
theorem round58 (l : List (List UInt8)) (hl : l.length ≤ 1000000000) (x : List UInt8) (i : Nat) (hi : i < l.length) :
    (∀ m, ¬ x = l[i] → mapHd [18, 4, 17, 16, 15, 14, 13, 12, 11, 5, 10, 9] (evCode X (m + 50) 58 0 L58 (S58 l x i)) = some (.normal, S58 l x (i + 1))) ∧
    (∀ q m, x = l[i] → lastK (K58 X q) (evCode X (m + 50) 58 0 L58 (S58 l x i)) = some (.int .i64 i, [])) := by
  have hx := strsV_get l i hi
  have hi' : (i : Int) < l.length := by omega
  have hw : IntKind.i64.wrap ((i : Int) + 1) = ((i + 1 : Nat) : Int) := by rw [wrapI64 (by omega) (by omega)]; rfl
  constructor
  · intro m hm
    have hm' : decide (x = l[i]) = false := by simpa using hm
    simp -implicitDefEqProofs [run_seq, run_then, run_then_ret, run_then_exit, run_region, run_regionK, run_cond, run_cond_true, run_cond_false, run_block, run_block_exit, run_block_ret, run_block_normal, evCode_exit, evCode_ret, evCode_skip, evRegion_seq, run_seqs, run_seqK, evSeq_zero, run_step, run_stepO, run_stepK_true, run_stepK_false, run_stepR, wantedV, evOp, evOpR, opd, putTm, putAll, ofValue, ofScalar, binV, intOp, unV, und_p, size_p, bytesOf_p, zeroV_p, aggT_p, size3, size5, size9, size22, size24, size25, size27, size28, size29, size31, size40, size42, size47, agg3, agg5, agg9, agg22, agg24, agg25, agg27, agg28, agg29, agg31, agg40, agg42, agg47, bytesOf3, bytesOf5, bytesOf9, bytesOf42, bytesOf47, zeroV3, zeroV5, zeroV9, zeroV24, zeroV27, zeroV31, zeroV42, zeroV47, Tryd.underlying3, Tryd.underlying5, Tryd.underlying9, Tryd.underlying22, Tryd.underlying24, Tryd.underlying27, Tryd.underlying28, Tryd.underlying29, Tryd.underlying31, Tryd.underlying40, Tryd.underlying42, Tryd.underlying47, Tryd.underlying51, Tryd.underlying61, Tryd.underlying78, wrapI64, builtinV, convV, len9, len_nil, len_slz, len_sl, len_msl, slT, minV, asI, asN, ce_int, ce_str, ce_bool, ce_agg, ce_msl, ce_sl, ce_nilsl, sc_int, sc_str, sc_bool, sc_msl, sc_sl, sc_nilsl, sc_slz, fillV, splice, Heap.put, Heap.get, appendV, srcCells, cellsOf, rowOf, zerosT, isIntT, isStr, maxBytes, indexAddrV, fieldAddrV, fieldOf, sliceV, storeAt, cellsAt, takeV, partV, nextV, strOp, cfst, csnd, mapHd_some, hdS_mk, canonK_some, reach_nil, reach_cons, reachGo, clearTm, refsL, V.refs, Blk.refs, renL, V.ren, Blk.ren, indexOf, subHeap, resultsR, leaveR_some, lastK_ret, lastK_exit, fin_ret, fin_normal, leave_int, leave_bool, leave_str, run_callV, ext_p, XR_x, mut_p, callA_tuple, callB_some, callC_some, resolve_go, resolveK_nil, resolveK_cons, mergeAt, freezeRows, freezeRow, V.msls, mslsL, V.deep, deepL, V.resolve1, V.flat, flatL, c17, c34, c47, c71, evRegion_draw, drawK_some, run_cons, run_traceK, run_trace, run_trace0, run_traceN, run_traceC, L58, B58, Tryd.f58, S58, hi, hi', hx, sameBytes_iff, hm', hw, refsL_strs]
  · intro q m hm
    have hm' : decide (x = l[i]) = true := by simpa using hm
    simp -implicitDefEqProofs [run_seq, run_then, run_then_ret, run_then_exit, run_region, run_regionK, run_cond, run_cond_true, run_cond_false, run_block, run_block_exit, run_block_ret, run_block_normal, evCode_exit, evCode_ret, evCode_skip, evRegion_seq, run_seqs, run_seqK, evSeq_zero, run_step, run_stepO, run_stepK_true, run_stepK_false, run_stepR, wantedV, evOp, evOpR, opd, putTm, putAll, ofValue, ofScalar, binV, intOp, unV, und_p, size_p, bytesOf_p, zeroV_p, aggT_p, size3, size5, size9, size22, size24, size25, size27, size28, size29, size31, size40, size42, size47, agg3, agg5, agg9, agg22, agg24, agg25, agg27, agg28, agg29, agg31, agg40, agg42, agg47, bytesOf3, bytesOf5, bytesOf9, bytesOf42, bytesOf47, zeroV3, zeroV5, zeroV9, zeroV24, zeroV27, zeroV31, zeroV42, zeroV47, Tryd.underlying3, Tryd.underlying5, Tryd.underlying9, Tryd.underlying22, Tryd.underlying24, Tryd.underlying27, Tryd.underlying28, Tryd.underlying29, Tryd.underlying31, Tryd.underlying40, Tryd.underlying42, Tryd.underlying47, Tryd.underlying51, Tryd.underlying61, Tryd.underlying78, wrapI64, builtinV, convV, len9, len_nil, len_slz, len_sl, len_msl, slT, minV, asI, asN, ce_int, ce_str, ce_bool, ce_agg, ce_msl, ce_sl, ce_nilsl, sc_int, sc_str, sc_bool, sc_msl, sc_sl, sc_nilsl, sc_slz, fillV, splice, Heap.put, Heap.get, appendV, srcCells, cellsOf, rowOf, zerosT, isIntT, isStr, maxBytes, indexAddrV, fieldAddrV, fieldOf, sliceV, storeAt, cellsAt, takeV, partV, nextV, strOp, cfst, csnd, mapHd_some, hdS_mk, canonK_some, reach_nil, reach_cons, reachGo, clearTm, refsL, V.refs, Blk.refs, renL, V.ren, Blk.ren, indexOf, subHeap, resultsR, leaveR_some, lastK_ret, lastK_exit, fin_ret, fin_normal, leave_int, leave_bool, leave_str, run_callV, ext_p, XR_x, mut_p, callA_tuple, callB_some, callC_some, resolve_go, resolveK_nil, resolveK_cons, mergeAt, freezeRows, freezeRow, V.msls, mslsL, V.deep, deepL, V.resolve1, V.flat, flatL, c17, c34, c47, c71, evRegion_draw, drawK_some, run_cons, run_traceK, run_trace, run_trace0, run_traceN, run_traceC, K58, R58, L58, B58, Tryd.f58, S58, hi, hi', hx, sameBytes_iff, hm', hw, refsL_strs]
theorem loop58 (q : Nat) (l : List (List UInt8)) (hl : l.length ≤ 1000000000) (x : List UInt8) (k : Nat) (hk : l.length ≤ k) (st : St) (hs : hdS [18, 4, 17, 16, 15, 14, 13, 12, 11, 5, 10, 9] st = S58 l x 0) :
    K58 X q (evCode X (k + 50 + 1) 58 0 (.loop L58) st) = some (.int .i64 (idx58 x l 0), []) := by
  refine loop_run (clears58 (X := X)) (S58 l x) (fun a => a ≤ l.length) (fun a => l.length - a) (fun a => (.int .i64 (idx58 x (l.drop a) a), [])) (K58 X q) 50 ?_ k 0 st (by simpa using hk) (by simp) hs
  intro i hi
  by_cases he : i = l.length
  · right
    subst he
    intro m
    rw [end58]
    simp [idx58]
  · have hil : i < l.length := by omega
    have hd : l.drop i = l[i] :: l.drop (i + 1) := List.drop_eq_getElem_cons hil
    have hr := round58 (X := X) l hl x i hil
    rw [hd, idx58]
    by_cases hb : x = l[i]
    · right
      intro m
      rw [if_pos hb]
      exact hr.2 q m hb
    · left
      refine ⟨i + 1, by omega, by omega, by rw [if_neg hb], fun m => hr.1 m hb⟩
theorem c58 (hsp : X.spec 58 = none) (m : Nat) (x : List UInt8) : callWith X (evCode X (m + 70)) 58 [.sl 1 2 [.str bIn, .str bOut], .str x] [] = some (.int .i64 (idx58 x [bIn, bOut] 0), []) := by
  refine call_fin (nt := 19) (res := #[.tmp 4]) hsp (fn_p Tryd.func58) shape58 rfl rfl ?_
  simp -implicitDefEqProofs [run_seq, run_then, run_then_ret, run_then_exit, run_region, run_regionK, run_cond, run_cond_true, run_cond_false, run_block, run_block_exit, run_block_ret, run_block_normal, evCode_exit, evCode_ret, evCode_skip, evRegion_seq, run_seqs, run_seqK, evSeq_zero, run_step, run_stepO, run_stepK_true, run_stepK_false, run_stepR, wantedV, evOp, evOpR, opd, putTm, putAll, ofValue, ofScalar, binV, intOp, unV, und_p, size_p, bytesOf_p, zeroV_p, aggT_p, size3, size5, size9, size22, size24, size25, size27, size28, size29, size31, size40, size42, size47, agg3, agg5, agg9, agg22, agg24, agg25, agg27, agg28, agg29, agg31, agg40, agg42, agg47, bytesOf3, bytesOf5, bytesOf9, bytesOf42, bytesOf47, zeroV3, zeroV5, zeroV9, zeroV24, zeroV27, zeroV31, zeroV42, zeroV47, Tryd.underlying3, Tryd.underlying5, Tryd.underlying9, Tryd.underlying22, Tryd.underlying24, Tryd.underlying27, Tryd.underlying28, Tryd.underlying29, Tryd.underlying31, Tryd.underlying40, Tryd.underlying42, Tryd.underlying47, Tryd.underlying51, Tryd.underlying61, Tryd.underlying78, wrapI64, builtinV, convV, len9, len_nil, len_slz, len_sl, len_msl, slT, minV, asI, asN, ce_int, ce_str, ce_bool, ce_agg, ce_msl, ce_sl, ce_nilsl, sc_int, sc_str, sc_bool, sc_msl, sc_sl, sc_nilsl, sc_slz, fillV, splice, Heap.put, Heap.get, appendV, srcCells, cellsOf, rowOf, zerosT, isIntT, isStr, maxBytes, indexAddrV, fieldAddrV, fieldOf, sliceV, storeAt, cellsAt, takeV, partV, nextV, strOp, cfst, csnd, mapHd_some, hdS_mk, canonK_some, reach_nil, reach_cons, reachGo, clearTm, refsL, V.refs, Blk.refs, renL, V.ren, Blk.ren, indexOf, subHeap, resultsR, leaveR_some, lastK_ret, lastK_exit, fin_ret, fin_normal, leave_int, leave_bool, leave_str, run_callV, ext_p, XR_x, mut_p, callA_tuple, callB_some, callC_some, resolve_go, resolveK_nil, resolveK_cons, mergeAt, freezeRows, freezeRow, V.msls, mslsL, V.deep, deepL, V.resolve1, V.flat, flatL, c17, c34, c47, c71, evRegion_draw, drawK_some, run_cons, run_traceK, run_trace, run_trace0, run_traceN, run_traceC, B58, Tryd.f58]
  have hh := loop58 (X := X) (m + 48) [bIn, bOut] (by decide) x (m + 15) (by simp)
  unfold K58 at hh
  refine hh _ ?_
  simp -implicitDefEqProofs [mapHd_some, hdS_mk, canonK_some, reach_nil, reach_cons, reachGo, clearTm, refsL, V.refs, Blk.refs, renL, V.ren, Blk.ren, indexOf, subHeap, Heap.get, S58, strsV]
end
/- numbers -/
def numOk (w : List UInt8) : Bool := (decR w).isSome && !sameBytes w []
def numV (w : List UInt8) : Int := (decR w).getD 0
theorem numV_ge (w : List UInt8) : 0 ≤ numV w := by
  unfold numV
  cases h : decR w with
  | none => simp
  | some v => exact getGo_ge 10 (by decide) _ _ _ _ _ (by decide) h
def numsGo : List (List UInt8) → List Int → Option (List Int)
  | [], out => some out
  | w :: r, out => if numOk w = true ∧ numV w ≤ 1099511627776 then numsGo r (out ++ [numV w]) else none
def intsV (l : List Int) : List V := l.map fun n => .int .i64 n
def sliceI (l : List Int) : V := if l = [] then .nilsl else .sl 1 l.length (intsV l)
def numsV (want : Int) : Option (List Int) → V
  | none => .tuple [.nilsl, .bool false]
  | some out => .tuple [sliceI out, .bool (decide ((out.length : Int) = want))]
theorem refsL_ints : ∀ l : List Int, refsL (intsV l) = []
  | [] => by simp [intsV, refsL]
  | x :: r => by
    have := refsL_ints r
    simp only [intsV] at this
    simp [intsV, refsL, V.refs, this]
theorem mslsL_ints : ∀ l : List Int, mslsL (intsV l) = []
  | [] => by simp [intsV, mslsL]
  | x :: r => by
    have := mslsL_ints r
    simp only [intsV] at this
    simp [intsV, mslsL, V.msls, this]
theorem renL_ints (m : Nat → Option Nat) (l : List Int) : renL m (intsV l) = intsV l := renL_id m _ (refsL_ints l)
theorem intsV_len (l : List Int) : (intsV l).length = l.length := by simp [intsV]
theorem intsV_noScalar (l : List Int) : (∃ x, x ∈ intsV l ∧ x.scalar = false) = False := by simp [intsV, V.scalar]
theorem take_ints (l : List Int) : (intsV l).take l.length = intsV l := List.take_of_length_le (by simp [intsV])
theorem intsV_snoc (l : List Int) (x : Int) : intsV (l ++ [x]) = intsV l ++ [.int .i64 x] := by simp [intsV]
noncomputable def B41 : Code := Tryd.f41.body.getD .skip
noncomputable def L41 : Code := cfst (cfst (csnd (cfst (csnd (csnd B41)))))
noncomputable def R41 : Code := csnd (csnd (csnd B41))
theorem shape41 : Tryd.f41.body = some (.seq (cfst B41) (.seq (cfst (csnd B41)) (.seq (.seq (cfst (cfst (csnd (csnd B41)))) (.block 0 (.loop L41))) R41))) := by kernel_rfl
def out41 (out : List Int) (ver : Nat) : V := if out = [] then .nilsl else .msl 0 ver 0 1 out.length
def heap41 (out : List Int) (ver : Nat) : Heap := if out = [] then [] else [some (.row (intsV out) true ver)]
def S41 (l : List (List UInt8)) (want : Int) (out : List Int) (ver i : Nat) : St :=
  ⟨[.sl 1 l.length (strsV l), .int .i64 want, .dead, .dead, .dead, .dead, out41 out ver, .dead, .dead, .dead, .dead, .sl 1 l.length (strsV l), .int .i64 l.length, .int .i64 i] ++ List.replicate 25 .dead, heap41 out ver⟩
section
variable {X : Ctx} [h : Low X]
theorem clears41 : clears (X.keepSlots 41) L41 = [33, 32, 31, 30, 29, 28, 5, 4, 27, 26, 25, 24, 23, 22, 10, 9, 21, 20, 17, 19, 18, 8, 16, 15, 14] := by
  rw [Prg.l]; kernel_rfl
noncomputable def K41 (X : Ctx) (q : Nat) (o : Option (Ex × St)) : Option (V × Heap) := fin X #[.tmp 4, .tmp 5] 41 0 (thenK X (q + 20) 41 0 R41 (blockK 0 o))
theorem end41 (q m : Nat) (l : List (List UInt8)) (want : Int) (out : List Int) (ver : Nat) : lastK (K41 X q) (evCode X (m + 50) 41 0 L41 (S41 l want out ver l.length)) = some (numsV want (some out), []) := by
  unfold S41 numsV sliceI out41 heap41
  have tk := take_ints out
  have hl := intsV_len out
  by_cases e : out = []
  · subst e
    simp -implicitDefEqProofs [run_seq, run_then, run_then_ret, run_then_exit, run_region, run_regionK, run_cond, run_cond_true, run_cond_false, run_block, run_block_exit, run_block_ret, run_block_normal, evCode_exit, evCode_ret, evCode_skip, evRegion_seq, run_seqs, run_seqK, evSeq_zero, run_step, run_stepO, run_stepK_true, run_stepK_false, run_stepR, wantedV, evOp, evOpR, opd, putTm, putAll, ofValue, ofScalar, binV, intOp, unV, und_p, size_p, bytesOf_p, zeroV_p, aggT_p, size3, size5, size9, size22, size24, size25, size27, size28, size29, size31, size40, size42, size47, agg3, agg5, agg9, agg22, agg24, agg25, agg27, agg28, agg29, agg31, agg40, agg42, agg47, bytesOf3, bytesOf5, bytesOf9, bytesOf42, bytesOf47, zeroV3, zeroV5, zeroV9, zeroV24, zeroV27, zeroV31, zeroV42, zeroV47, Tryd.underlying3, Tryd.underlying5, Tryd.underlying9, Tryd.underlying22, Tryd.underlying24, Tryd.underlying27, Tryd.underlying28, Tryd.underlying29, Tryd.underlying31, Tryd.underlying40, Tryd.underlying42, Tryd.underlying47, Tryd.underlying51, Tryd.underlying61, Tryd.underlying78, wrapI64, builtinV, convV, len9, len_nil, len_slz, len_sl, len_msl, slT, minV, asI, asN, ce_int, ce_str, ce_bool, ce_agg, ce_msl, ce_sl, ce_nilsl, sc_int, sc_str, sc_bool, sc_msl, sc_sl, sc_nilsl, sc_slz, fillV, splice, Heap.put, Heap.get, appendV, srcCells, cellsOf, rowOf, zerosT, isIntT, isStr, maxBytes, indexAddrV, fieldAddrV, fieldOf, sliceV, storeAt, cellsAt, takeV, partV, nextV, strOp, cfst, csnd, mapHd_some, hdS_mk, canonK_some, reach_nil, reach_cons, reachGo, clearTm, refsL, V.refs, Blk.refs, renL, V.ren, Blk.ren, indexOf, subHeap, resultsR, leaveR_some, lastK_ret, lastK_exit, fin_ret, fin_normal, leave_int, leave_bool, leave_str, run_callV, ext_p, XR_x, mut_p, callA_tuple, callB_some, callC_some, resolve_go, resolveK_nil, resolveK_cons, mergeAt, freezeRows, freezeRow, V.msls, mslsL, V.deep, deepL, V.resolve1, V.flat, flatL, c17, c34, c47, c71, evRegion_draw, drawK_some, run_cons, run_traceK, run_trace, run_trace0, run_traceN, run_traceC, K41, L41, R41, B41, Tryd.f41, leave_go, leaveK_pure]
  · simp -implicitDefEqProofs [run_seq, run_then, run_then_ret, run_then_exit, run_region, run_regionK, run_cond, run_cond_true, run_cond_false, run_block, run_block_exit, run_block_ret, run_block_normal, evCode_exit, evCode_ret, evCode_skip, evRegion_seq, run_seqs, run_seqK, evSeq_zero, run_step, run_stepO, run_stepK_true, run_stepK_false, run_stepR, wantedV, evOp, evOpR, opd, putTm, putAll, ofValue, ofScalar, binV, intOp, unV, und_p, size_p, bytesOf_p, zeroV_p, aggT_p, size3, size5, size9, size22, size24, size25, size27, size28, size29, size31, size40, size42, size47, agg3, agg5, agg9, agg22, agg24, agg25, agg27, agg28, agg29, agg31, agg40, agg42, agg47, bytesOf3, bytesOf5, bytesOf9, bytesOf42, bytesOf47, zeroV3, zeroV5, zeroV9, zeroV24, zeroV27, zeroV31, zeroV42, zeroV47, Tryd.underlying3, Tryd.underlying5, Tryd.underlying9, Tryd.underlying22, Tryd.underlying24, Tryd.underlying27, Tryd.underlying28, Tryd.underlying29, Tryd.underlying31, Tryd.underlying40, Tryd.underlying42, Tryd.underlying47, Tryd.underlying51, Tryd.underlying61, Tryd.underlying78, wrapI64, builtinV, convV, len9, len_nil, len_slz, len_sl, len_msl, slT, minV, asI, asN, ce_int, ce_str, ce_bool, ce_agg, ce_msl, ce_sl, ce_nilsl, sc_int, sc_str, sc_bool, sc_msl, sc_sl, sc_nilsl, sc_slz, fillV, splice, Heap.put, Heap.get, appendV, srcCells, cellsOf, rowOf, zerosT, isIntT, isStr, maxBytes, indexAddrV, fieldAddrV, fieldOf, sliceV, storeAt, cellsAt, takeV, partV, nextV, strOp, cfst, csnd, mapHd_some, hdS_mk, canonK_some, reach_nil, reach_cons, reachGo, clearTm, refsL, V.refs, Blk.refs, renL, V.ren, Blk.ren, indexOf, subHeap, resultsR, leaveR_some, lastK_ret, lastK_exit, fin_ret, fin_normal, leave_int, leave_bool, leave_str, run_callV, ext_p, XR_x, mut_p, callA_tuple, callB_some, callC_some, resolve_go, resolveK_nil, resolveK_cons, mergeAt, freezeRows, freezeRow, V.msls, mslsL, V.deep, deepL, V.resolve1, V.flat, flatL, c17, c34, c47, c71, evRegion_draw, drawK_some, run_cons, run_traceK, run_trace, run_trace0, run_traceN, run_traceC, K41, L41, R41, B41, Tryd.f41, leave_go, leaveK_pure, e, tk, hl, refsL_ints, mslsL_ints, renL_ints]
theorem bad41 (q m : Nat) (l : List (List UInt8)) (want : Int) (out : List Int) (ver i : Nat) (hi : i < l.length) (hb : ¬ (numOk l[i] = true ∧ numV l[i] ≤ 1099511627776)) :
    lastK (K41 X q) (evCode X (m + 50) 41 0 L41 (S41 l want out ver i)) = some (numsV want none, []) := by
  have hx := strsV_get l i hi
  have hi' : (i : Int) < l.length := by omega
  have hc : ∀ m, callWith X (evCode X (m + 10)) 53 [.str l[i]] [] = some (.tuple [.int .u64 (numV l[i]), .bool (numOk l[i])], []) := fun m => by rw [c53, getRes_eq]; rfl
  have hout : ∀ f, (out41 out ver).ren f = out41 out ver ∨ True := fun _ => .inr trivial
  unfold S41 numsV
  cases e : numOk l[i]
  · simp -implicitDefEqProofs [run_seq, run_then, run_then_ret, run_then_exit, run_region, run_regionK, run_cond, run_cond_true, run_cond_false, run_block, run_block_exit, run_block_ret, run_block_normal, evCode_exit, evCode_ret, evCode_skip, evRegion_seq, run_seqs, run_seqK, evSeq_zero, run_step, run_stepO, run_stepK_true, run_stepK_false, run_stepR, wantedV, evOp, evOpR, opd, putTm, putAll, ofValue, ofScalar, binV, intOp, unV, und_p, size_p, bytesOf_p, zeroV_p, aggT_p, size3, size5, size9, size22, size24, size25, size27, size28, size29, size31, size40, size42, size47, agg3, agg5, agg9, agg22, agg24, agg25, agg27, agg28, agg29, agg31, agg40, agg42, agg47, bytesOf3, bytesOf5, bytesOf9, bytesOf42, bytesOf47, zeroV3, zeroV5, zeroV9, zeroV24, zeroV27, zeroV31, zeroV42, zeroV47, Tryd.underlying3, Tryd.underlying5, Tryd.underlying9, Tryd.underlying22, Tryd.underlying24, Tryd.underlying27, Tryd.underlying28, Tryd.underlying29, Tryd.underlying31, Tryd.underlying40, Tryd.underlying42, Tryd.underlying47, Tryd.underlying51, Tryd.underlying61, Tryd.underlying78, wrapI64, builtinV, convV, len9, len_nil, len_slz, len_sl, len_msl, slT, minV, asI, asN, ce_int, ce_str, ce_bool, ce_agg, ce_msl, ce_sl, ce_nilsl, sc_int, sc_str, sc_bool, sc_msl, sc_sl, sc_nilsl, sc_slz, fillV, splice, Heap.put, Heap.get, appendV, srcCells, cellsOf, rowOf, zerosT, isIntT, isStr, maxBytes, indexAddrV, fieldAddrV, fieldOf, sliceV, storeAt, cellsAt, takeV, partV, nextV, strOp, cfst, csnd, mapHd_some, hdS_mk, canonK_some, reach_nil, reach_cons, reachGo, clearTm, refsL, V.refs, Blk.refs, renL, V.ren, Blk.ren, indexOf, subHeap, resultsR, leaveR_some, lastK_ret, lastK_exit, fin_ret, fin_normal, leave_int, leave_bool, leave_str, run_callV, ext_p, XR_x, mut_p, callA_tuple, callB_some, callC_some, resolve_go, resolveK_nil, resolveK_cons, mergeAt, freezeRows, freezeRow, V.msls, mslsL, V.deep, deepL, V.resolve1, V.flat, flatL, c17, c34, c47, c71, evRegion_draw, drawK_some, run_cons, run_traceK, run_trace, run_trace0, run_traceN, run_traceC, K41, R41, L41, B41, Tryd.f41, hi, hi', hx, hc, e, leave_go, leaveK_pure]
  · have e2 : 1099511627776 < numV l[i] := by
      rw [e] at hb; simp at hb; omega
    simp -implicitDefEqProofs [run_seq, run_then, run_then_ret, run_then_exit, run_region, run_regionK, run_cond, run_cond_true, run_cond_false, run_block, run_block_exit, run_block_ret, run_block_normal, evCode_exit, evCode_ret, evCode_skip, evRegion_seq, run_seqs, run_seqK, evSeq_zero, run_step, run_stepO, run_stepK_true, run_stepK_false, run_stepR, wantedV, evOp, evOpR, opd, putTm, putAll, ofValue, ofScalar, binV, intOp, unV, und_p, size_p, bytesOf_p, zeroV_p, aggT_p, size3, size5, size9, size22, size24, size25, size27, size28, size29, size31, size40, size42, size47, agg3, agg5, agg9, agg22, agg24, agg25, agg27, agg28, agg29, agg31, agg40, agg42, agg47, bytesOf3, bytesOf5, bytesOf9, bytesOf42, bytesOf47, zeroV3, zeroV5, zeroV9, zeroV24, zeroV27, zeroV31, zeroV42, zeroV47, Tryd.underlying3, Tryd.underlying5, Tryd.underlying9, Tryd.underlying22, Tryd.underlying24, Tryd.underlying27, Tryd.underlying28, Tryd.underlying29, Tryd.underlying31, Tryd.underlying40, Tryd.underlying42, Tryd.underlying47, Tryd.underlying51, Tryd.underlying61, Tryd.underlying78, wrapI64, builtinV, convV, len9, len_nil, len_slz, len_sl, len_msl, slT, minV, asI, asN, ce_int, ce_str, ce_bool, ce_agg, ce_msl, ce_sl, ce_nilsl, sc_int, sc_str, sc_bool, sc_msl, sc_sl, sc_nilsl, sc_slz, fillV, splice, Heap.put, Heap.get, appendV, srcCells, cellsOf, rowOf, zerosT, isIntT, isStr, maxBytes, indexAddrV, fieldAddrV, fieldOf, sliceV, storeAt, cellsAt, takeV, partV, nextV, strOp, cfst, csnd, mapHd_some, hdS_mk, canonK_some, reach_nil, reach_cons, reachGo, clearTm, refsL, V.refs, Blk.refs, renL, V.ren, Blk.ren, indexOf, subHeap, resultsR, leaveR_some, lastK_ret, lastK_exit, fin_ret, fin_normal, leave_int, leave_bool, leave_str, run_callV, ext_p, XR_x, mut_p, callA_tuple, callB_some, callC_some, resolve_go, resolveK_nil, resolveK_cons, mergeAt, freezeRows, freezeRow, V.msls, mslsL, V.deep, deepL, V.resolve1, V.flat, flatL, c17, c34, c47, c71, evRegion_draw, drawK_some, run_cons, run_traceK, run_trace, run_trace0, run_traceN, run_traceC, K41, R41, L41, B41, Tryd.f41, hi, hi', hx, hc, e, e2, leave_go, leaveK_pure]
theorem next41 (m : Nat) (l : List (List UInt8)) (hl : l.length ≤ 1000000000) (want : Int) (out : List Int) (ho : out.length ≤ 1000000000) (ver i : Nat) (hi : i < l.length) (hb : numOk l[i] = true ∧ numV l[i] ≤ 1099511627776) :
    mapHd [33, 32, 31, 30, 29, 28, 5, 4, 27, 26, 25, 24, 23, 22, 10, 9, 21, 20, 17, 19, 18, 8, 16, 15, 14] (evCode X (m + 50) 41 0 L41 (S41 l want out ver i)) = some (.normal, S41 l want (out ++ [numV l[i]]) (if out = [] then 0 else ver + 1) (i + 1)) := by
  have hx := strsV_get l i hi
  have hi' : (i : Int) < l.length := by omega
  have hc : ∀ m, callWith X (evCode X (m + 10)) 53 [.str l[i]] [] = some (.tuple [.int .u64 (numV l[i]), .bool (numOk l[i])], []) := fun m => by rw [c53, getRes_eq]; rfl
  obtain ⟨b1, b2⟩ := hb
  have b0 := numV_ge l[i]
  have b3 : ¬ 1099511627776 < numV l[i] := by omega
  have wv : IntKind.i64.wrap (numV l[i]) = numV l[i] := wrapI64 (by omega) (by omega)
  have hw : IntKind.i64.wrap ((i : Int) + 1) = ((i + 1 : Nat) : Int) := by rw [wrapI64 (by omega) (by omega)]; rfl
  have g1 : (2 * (out.length + 1) + 1000) * 8 ≤ 70368744177664 := by omega
  have tk := take_ints out
  have hln := intsV_len out
  have one : ∀ x : Int, intsV [x] = [.int .i64 x] := fun _ => rfl
  unfold S41 out41 heap41
  by_cases e : out = []
  · subst e
    simp -implicitDefEqProofs [run_seq, run_then, run_then_ret, run_then_exit, run_region, run_regionK, run_cond, run_cond_true, run_cond_false, run_block, run_block_exit, run_block_ret, run_block_normal, evCode_exit, evCode_ret, evCode_skip, evRegion_seq, run_seqs, run_seqK, evSeq_zero, run_step, run_stepO, run_stepK_true, run_stepK_false, run_stepR, wantedV, evOp, evOpR, opd, putTm, putAll, ofValue, ofScalar, binV, intOp, unV, und_p, size_p, bytesOf_p, zeroV_p, aggT_p, size3, size5, size9, size22, size24, size25, size27, size28, size29, size31, size40, size42, size47, agg3, agg5, agg9, agg22, agg24, agg25, agg27, agg28, agg29, agg31, agg40, agg42, agg47, bytesOf3, bytesOf5, bytesOf9, bytesOf42, bytesOf47, zeroV3, zeroV5, zeroV9, zeroV24, zeroV27, zeroV31, zeroV42, zeroV47, Tryd.underlying3, Tryd.underlying5, Tryd.underlying9, Tryd.underlying22, Tryd.underlying24, Tryd.underlying27, Tryd.underlying28, Tryd.underlying29, Tryd.underlying31, Tryd.underlying40, Tryd.underlying42, Tryd.underlying47, Tryd.underlying51, Tryd.underlying61, Tryd.underlying78, wrapI64, builtinV, convV, len9, len_nil, len_slz, len_sl, len_msl, slT, minV, asI, asN, ce_int, ce_str, ce_bool, ce_agg, ce_msl, ce_sl, ce_nilsl, sc_int, sc_str, sc_bool, sc_msl, sc_sl, sc_nilsl, sc_slz, fillV, splice, Heap.put, Heap.get, appendV, srcCells, cellsOf, rowOf, zerosT, isIntT, isStr, maxBytes, indexAddrV, fieldAddrV, fieldOf, sliceV, storeAt, cellsAt, takeV, partV, nextV, strOp, cfst, csnd, mapHd_some, hdS_mk, canonK_some, reach_nil, reach_cons, reachGo, clearTm, refsL, V.refs, Blk.refs, renL, V.ren, Blk.ren, indexOf, subHeap, resultsR, leaveR_some, lastK_ret, lastK_exit, fin_ret, fin_normal, leave_int, leave_bool, leave_str, run_callV, ext_p, XR_x, mut_p, callA_tuple, callB_some, callC_some, resolve_go, resolveK_nil, resolveK_cons, mergeAt, freezeRows, freezeRow, V.msls, mslsL, V.deep, deepL, V.resolve1, V.flat, flatL, c17, c34, c47, c71, evRegion_draw, drawK_some, run_cons, run_traceK, run_trace, run_trace0, run_traceN, run_traceC, L41, B41, Tryd.f41, hi, hi', hx, hc, b1, b3, wv, hw, refsL_strs, renL_strs, one]
  · simp -implicitDefEqProofs [run_seq, run_then, run_then_ret, run_then_exit, run_region, run_regionK, run_cond, run_cond_true, run_cond_false, run_block, run_block_exit, run_block_ret, run_block_normal, evCode_exit, evCode_ret, evCode_skip, evRegion_seq, run_seqs, run_seqK, evSeq_zero, run_step, run_stepO, run_stepK_true, run_stepK_false, run_stepR, wantedV, evOp, evOpR, opd, putTm, putAll, ofValue, ofScalar, binV, intOp, unV, und_p, size_p, bytesOf_p, zeroV_p, aggT_p, size3, size5, size9, size22, size24, size25, size27, size28, size29, size31, size40, size42, size47, agg3, agg5, agg9, agg22, agg24, agg25, agg27, agg28, agg29, agg31, agg40, agg42, agg47, bytesOf3, bytesOf5, bytesOf9, bytesOf42, bytesOf47, zeroV3, zeroV5, zeroV9, zeroV24, zeroV27, zeroV31, zeroV42, zeroV47, Tryd.underlying3, Tryd.underlying5, Tryd.underlying9, Tryd.underlying22, Tryd.underlying24, Tryd.underlying27, Tryd.underlying28, Tryd.underlying29, Tryd.underlying31, Tryd.underlying40, Tryd.underlying42, Tryd.underlying47, Tryd.underlying51, Tryd.underlying61, Tryd.underlying78, wrapI64, builtinV, convV, len9, len_nil, len_slz, len_sl, len_msl, slT, minV, asI, asN, ce_int, ce_str, ce_bool, ce_agg, ce_msl, ce_sl, ce_nilsl, sc_int, sc_str, sc_bool, sc_msl, sc_sl, sc_nilsl, sc_slz, fillV, splice, Heap.put, Heap.get, appendV, srcCells, cellsOf, rowOf, zerosT, isIntT, isStr, maxBytes, indexAddrV, fieldAddrV, fieldOf, sliceV, storeAt, cellsAt, takeV, partV, nextV, strOp, cfst, csnd, mapHd_some, hdS_mk, canonK_some, reach_nil, reach_cons, reachGo, clearTm, refsL, V.refs, Blk.refs, renL, V.ren, Blk.ren, indexOf, subHeap, resultsR, leaveR_some, lastK_ret, lastK_exit, fin_ret, fin_normal, leave_int, leave_bool, leave_str, run_callV, ext_p, XR_x, mut_p, callA_tuple, callB_some, callC_some, resolve_go, resolveK_nil, resolveK_cons, mergeAt, freezeRows, freezeRow, V.msls, mslsL, V.deep, deepL, V.resolve1, V.flat, flatL, c17, c34, c47, c71, evRegion_draw, drawK_some, run_cons, run_traceK, run_trace, run_trace0, run_traceN, run_traceC, L41, B41, Tryd.f41, hi, hi', hx, hc, b1, b3, wv, hw, e, g1, tk, hln, refsL_strs, renL_strs, refsL_ints, renL_ints, refsL_app', renL_app', intsV_snoc, intsV_noScalar]
theorem loop41 (q : Nat) (l : List (List UInt8)) (hl : l.length ≤ 1000000000) (want : Int) (k : Nat) (hk : l.length ≤ k) (st : St)
    (hs : hdS [33, 32, 31, 30, 29, 28, 5, 4, 27, 26, 25, 24, 23, 22, 10, 9, 21, 20, 17, 19, 18, 8, 16, 15, 14] st = S41 l want [] 0 0) :
    K41 X q (evCode X (k + 50 + 1) 41 0 (.loop L41) st) = some (numsV want (numsGo l []), []) := by
  refine loop_run (clears41 (X := X)) (fun a : List Int × Nat × Nat => S41 l want a.1 a.2.1 a.2.2) (fun a => a.2.2 ≤ l.length ∧ a.1.length ≤ a.2.2) (fun a => l.length - a.2.2) (fun a => (numsV want (numsGo (l.drop a.2.2) a.1), [])) (K41 X q) 50 ?_ k ([], 0, 0) st (by simpa using hk) (by simp) hs
  rintro ⟨out, ver, i⟩ ⟨hi, ho⟩
  simp only at hi ho ⊢
  by_cases he : i = l.length
  · right
    subst he
    intro m
    rw [end41]
    simp [numsGo]
  · have hil : i < l.length := by omega
    have hd : l.drop i = l[i] :: l.drop (i + 1) := List.drop_eq_getElem_cons hil
    by_cases hb : numOk l[i] = true ∧ numV l[i] ≤ 1099511627776
    · left
      refine ⟨(out ++ [numV l[i]], if out = [] then 0 else ver + 1, i + 1), ⟨by show i + 1 ≤ _; omega, by simp; omega⟩, by show l.length - (i + 1) < l.length - i; omega, ?_, fun m => next41 m l hl want out (by omega) ver i hil hb⟩
      simp only
      rw [hd, numsGo, if_pos hb]
    · right
      intro m
      rw [hd, numsGo, if_neg hb]
      exact bad41 q m l want out ver i hil hb
theorem ev41 (hsp : X.spec 41 = none) (l : List (List UInt8)) (hl : l.length ≤ 1000000000) (want : Int) : evCall X (l.length + 56) 41 [.sl 1 l.length (strsV l), .int .i64 want] [] = some (numsV want (numsGo l []), []) := by
  refine call_fin (nt := 39) (res := #[.tmp 4, .tmp 5]) hsp (fn_p Tryd.func41) shape41 rfl rfl ?_
  simp -implicitDefEqProofs [run_seq, run_then, run_then_ret, run_then_exit, run_region, run_regionK, run_cond, run_cond_true, run_cond_false, run_block, run_block_exit, run_block_ret, run_block_normal, evCode_exit, evCode_ret, evCode_skip, evRegion_seq, run_seqs, run_seqK, evSeq_zero, run_step, run_stepO, run_stepK_true, run_stepK_false, run_stepR, wantedV, evOp, evOpR, opd, putTm, putAll, ofValue, ofScalar, binV, intOp, unV, und_p, size_p, bytesOf_p, zeroV_p, aggT_p, size3, size5, size9, size22, size24, size25, size27, size28, size29, size31, size40, size42, size47, agg3, agg5, agg9, agg22, agg24, agg25, agg27, agg28, agg29, agg31, agg40, agg42, agg47, bytesOf3, bytesOf5, bytesOf9, bytesOf42, bytesOf47, zeroV3, zeroV5, zeroV9, zeroV24, zeroV27, zeroV31, zeroV42, zeroV47, Tryd.underlying3, Tryd.underlying5, Tryd.underlying9, Tryd.underlying22, Tryd.underlying24, Tryd.underlying27, Tryd.underlying28, Tryd.underlying29, Tryd.underlying31, Tryd.underlying40, Tryd.underlying42, Tryd.underlying47, Tryd.underlying51, Tryd.underlying61, Tryd.underlying78, wrapI64, builtinV, convV, len9, len_nil, len_slz, len_sl, len_msl, slT, minV, asI, asN, ce_int, ce_str, ce_bool, ce_agg, ce_msl, ce_sl, ce_nilsl, sc_int, sc_str, sc_bool, sc_msl, sc_sl, sc_nilsl, sc_slz, fillV, splice, Heap.put, Heap.get, appendV, srcCells, cellsOf, rowOf, zerosT, isIntT, isStr, maxBytes, indexAddrV, fieldAddrV, fieldOf, sliceV, storeAt, cellsAt, takeV, partV, nextV, strOp, cfst, csnd, mapHd_some, hdS_mk, canonK_some, reach_nil, reach_cons, reachGo, clearTm, refsL, V.refs, Blk.refs, renL, V.ren, Blk.ren, indexOf, subHeap, resultsR, leaveR_some, lastK_ret, lastK_exit, fin_ret, fin_normal, leave_int, leave_bool, leave_str, run_callV, ext_p, XR_x, mut_p, callA_tuple, callB_some, callC_some, resolve_go, resolveK_nil, resolveK_cons, mergeAt, freezeRows, freezeRow, V.msls, mslsL, V.deep, deepL, V.resolve1, V.flat, flatL, c17, c34, c47, c71, evRegion_draw, drawK_some, run_cons, run_traceK, run_trace, run_trace0, run_traceN, run_traceC, B41, Tryd.f41]
  have hh := loop41 (X := X) (l.length + 33) l hl want l.length (Nat.le_refl _)
  unfold K41 at hh
  refine hh _ ?_
  simp -implicitDefEqProofs [mapHd_some, hdS_mk, canonK_some, reach_nil, reach_cons, reachGo, clearTm, refsL, V.refs, Blk.refs, renL, V.ren, Blk.ren, indexOf, subHeap, Heap.get, S41, out41, heap41, refsL_strs]
end
theorem strsOf_eq : ∀ (cs : List V) (l : List (List UInt8)), strsOf cs = some l → cs = strsV l
  | [], l, h => by simp [strsOf] at h; subst h; rfl
  | c :: r, l, h => by
    unfold strsOf at h
    split at h
    · rename_i e; exact absurd e (by simp)
    · rename_i s r' e
      cases e
      obtain ⟨l', h1, h2⟩ := Option.map_eq_some_iff.1 h
      subst h2
      rw [strsOf_eq r l' h1]
      rfl
    · cases h
def F60 (args : List V) (H : Heap) : Option (V × Heap) := match args, H with
  | [.str s], [] => if s.length ≤ 1000000000 then some (rbV (rbGo s [] none), []) else none
  | _, _ => none
def F40 (args : List V) (H : Heap) : Option (V × Heap) := match args, H with
  | [.str s, .str [c]], [] => if s.length ≤ 1000000000 then some (.sl 1 (splitC c s).length (strsV (splitC c s)), []) else none
  | _, _ => none
def F41 (args : List V) (H : Heap) : Option (V × Heap) := match args, H with
  | [.sl 1 n cs, .int .i64 want], [] => match strsOf cs with
    | some l => if l.length = n ∧ n ≤ 1000000000 then some (numsV want (numsGo l []), []) else none
    | none => none
  | _, _ => none
instance : Str X7 where
  n2 := by
    intro f hf
    simp only [List.mem_cons, List.not_mem_nil, or_false] at hf
    rcases hf with rfl | rfl | rfl | rfl | rfl | rfl <;> rfl
noncomputable def X8 : Ctx := X7.hook 60 F60
instance : Mid X8 := Mid.hook (inferInstanceAs (Mid X7)) F60 (by decide)
instance : Str X8 where
  n2 := by
    intro f hf
    simp only [List.mem_cons, List.not_mem_nil, or_false] at hf
    rcases hf with rfl | rfl | rfl | rfl | rfl | rfl <;> rfl
theorem h73_7 : ∀ rec args H, callWith X7 rec 73 args H = F73 args H := fun rec args H => call_hook rfl _ _
theorem X8_good : Good X8 := X7_good.hook fun args H r H' h => by
  unfold F60 at h
  split at h
  · split at h
    · rename_i s hs
      cases h
      exact ⟨_, ev60 h73_7 rfl s hs⟩
    · cases h
  · cases h
noncomputable def X9 : Ctx := X8.hook 40 F40
instance : Mid X9 := Mid.hook (inferInstanceAs (Mid X8)) F40 (by decide)
instance : Str X9 where
  n2 := by
    intro f hf
    simp only [List.mem_cons, List.not_mem_nil, or_false] at hf
    rcases hf with rfl | rfl | rfl | rfl | rfl | rfl <;> rfl
theorem X9_good : Good X9 := X8_good.hook fun args H r H' h => by
  unfold F40 at h
  split at h
  · split at h
    · rename_i s c hs
      cases h
      exact ⟨_, ev40 rfl rfl s c hs⟩
    · cases h
  · cases h
noncomputable def X10 : Ctx := X9.hook 41 F41
instance : Mid X10 := Mid.hook (inferInstanceAs (Mid X9)) F41 (by decide)
instance : Str X10 where
  n2 := by
    intro f hf
    simp only [List.mem_cons, List.not_mem_nil, or_false] at hf
    rcases hf with rfl | rfl | rfl | rfl | rfl | rfl <;> rfl
theorem X10_good : Good X10 := X9_good.hook fun args H r H' h => by
  unfold F41 at h
  split at h
  · rename_i n cs want
    split at h
    · rename_i l hl
      split at h
      · rename_i hc
        cases h
        obtain ⟨rfl, hc⟩ := hc
        have e := strsOf_eq _ _ hl
        subst e
        exact ⟨_, ev41 rfl l hc want⟩
      · cases h
    · cases h
  · cases h
end Go.Ev
