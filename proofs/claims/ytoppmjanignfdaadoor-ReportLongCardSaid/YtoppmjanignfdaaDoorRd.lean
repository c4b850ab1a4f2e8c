/- A part of the proof of ReportBack (the second form: what is handed in is of bulk at most 1048576): no statement of the seat's stands here. -/
import Derived.Test.YtoppmjanignfdaaDoorRc
set_option linter.unusedSectionVars false
set_option linter.unusedSimpArgs false
set_option linter.unusedVariables false
set_option linter.all false
set_option linter.unusedVariables false
set_option linter.unusedSimpArgs false
set_option maxRecDepth 100000
namespace Go.Ev
open Go Go.Proofs
def bytNil (x : V) (i : Nat) : St := ⟨[x, .dead, .str [], .slz, .dead, .dead, x, .int .i64 0, .int .i64 0, .slz, x, .int .i64 0, .int .i64 0, .dead, .dead, .dead, .dead, .dead, .dead, .dead, .dead, .dead, .dead, .dead, .dead, .dead, .dead, .dead, .dead, .dead], []⟩
theorem byt_nil (x : V) (hx : x = .nilsl ∨ x = .slz ∨ x = .sl 1 0 []) : evCall X2 27 34 [x] [] = some (.str [], []) := by
  refine call_fin (nt := 30) (res := #[.tmp 2]) rfl Tryd.func34 byt_shape rfl rfl ?_
  have h : ∀ x, x = .nilsl ∨ x = .slz ∨ x = .sl 1 0 [] → evCode X2 22 34 0 (.loop bytLoop) (bytNil x 0) = some (.exit 0, ⟨(bytNil x 0).tm.set 13 (.bool false), []⟩) := by
    intro x hx
    have hs : hdS [27, 26, 25, 24, 23, 22, 21, 20, 19, 18, 17, 16, 5, 15, 14, 13] (bytNil x 0) = bytNil x 0 := by
      rcases hx with rfl | rfl | rfl <;> simp -implicitDefEqProofs [mapHd_some, hdS_mk, canonK_some, reach_nil, reach_cons, reachGo, clearTm, refsL, V.refs, Blk.refs, renL, V.ren, Blk.ren, indexOf, subHeap, bytNil]
    have hh : head X2 34 0 bytLoop (bytNil x 0) = bytNil x 0 := (head_hd byt_clears _).trans hs
    have hb : evCode X2 21 34 0 bytLoop (bytNil x 0) = some (.exit 0, ⟨(bytNil x 0).tm.set 13 (.bool false), []⟩) := by
      simp -implicitDefEqProofs [run_seq, run_then, run_then_ret, run_then_exit, run_region, run_regionK, run_cond, run_cond_true, run_cond_false, run_block, run_block_exit, run_block_ret, run_block_normal, evCode_exit, evCode_ret, evCode_skip, evRegion_seq, run_seqs, run_seqK, evSeq_zero, run_step, run_stepO, run_stepK_true, run_stepK_false, run_stepR, wantedV, evOp, evOpR, opd, putTm, putAll, ofValue, ofScalar, binV, intOp, unV, und_p, size_p, bytesOf_p, zeroV_p, aggT_p, size3, size5, size9, size22, size24, size25, size27, size28, size29, size31, size40, size42, size47, agg3, agg5, agg9, agg22, agg24, agg25, agg27, agg28, agg29, agg31, agg40, agg42, agg47, bytesOf3, bytesOf5, bytesOf9, bytesOf42, bytesOf47, zeroV3, zeroV5, zeroV9, zeroV24, zeroV27, zeroV31, zeroV42, zeroV47, Tryd.underlying3, Tryd.underlying5, Tryd.underlying9, Tryd.underlying22, Tryd.underlying24, Tryd.underlying27, Tryd.underlying28, Tryd.underlying29, Tryd.underlying31, Tryd.underlying40, Tryd.underlying42, Tryd.underlying47, Tryd.underlying51, Tryd.underlying61, Tryd.underlying78, wrapI64, builtinV, convV, len9, len_nil, len_slz, len_sl, len_msl, slT, minV, asI, asN, ce_int, ce_str, ce_bool, ce_agg, ce_msl, ce_sl, ce_nilsl, sc_int, sc_str, sc_bool, sc_msl, sc_sl, sc_nilsl, sc_slz, fillV, splice, Heap.put, Heap.get, appendV, srcCells, cellsOf, rowOf, zerosT, isIntT, isStr, maxBytes, indexAddrV, fieldAddrV, fieldOf, sliceV, storeAt, cellsAt, takeV, partV, nextV, strOp, cfst, csnd, mapHd_some, hdS_mk, canonK_some, reach_nil, reach_cons, reachGo, clearTm, refsL, V.refs, Blk.refs, renL, V.ren, Blk.ren, indexOf, subHeap, resultsR, leaveR_some, lastK_ret, lastK_exit, fin_ret, fin_normal, leave_int, leave_bool, leave_str, bytLoop, bytB, bytNil, Tryd.f34]
    rw [evCode_loop, hh, hb]
  rcases hx with rfl | rfl | rfl
  · have h1 := h .nilsl (.inl rfl)
    unfold bytNil at h1
    simp -implicitDefEqProofs [run_seq, run_then, run_then_ret, run_then_exit, run_region, run_regionK, run_cond, run_cond_true, run_cond_false, run_block, run_block_exit, run_block_ret, run_block_normal, evCode_exit, evCode_ret, evCode_skip, evRegion_seq, run_seqs, run_seqK, evSeq_zero, run_step, run_stepO, run_stepK_true, run_stepK_false, run_stepR, wantedV, evOp, evOpR, opd, putTm, putAll, ofValue, ofScalar, binV, intOp, unV, und_p, size_p, bytesOf_p, zeroV_p, aggT_p, size3, size5, size9, size22, size24, size25, size27, size28, size29, size31, size40, size42, size47, agg3, agg5, agg9, agg22, agg24, agg25, agg27, agg28, agg29, agg31, agg40, agg42, agg47, bytesOf3, bytesOf5, bytesOf9, bytesOf42, bytesOf47, zeroV3, zeroV5, zeroV9, zeroV24, zeroV27, zeroV31, zeroV42, zeroV47, Tryd.underlying3, Tryd.underlying5, Tryd.underlying9, Tryd.underlying22, Tryd.underlying24, Tryd.underlying27, Tryd.underlying28, Tryd.underlying29, Tryd.underlying31, Tryd.underlying40, Tryd.underlying42, Tryd.underlying47, Tryd.underlying51, Tryd.underlying61, Tryd.underlying78, wrapI64, builtinV, convV, len9, len_nil, len_slz, len_sl, len_msl, slT, minV, asI, asN, ce_int, ce_str, ce_bool, ce_agg, ce_msl, ce_sl, ce_nilsl, sc_int, sc_str, sc_bool, sc_msl, sc_sl, sc_nilsl, sc_slz, fillV, splice, Heap.put, Heap.get, appendV, srcCells, cellsOf, rowOf, zerosT, isIntT, isStr, maxBytes, indexAddrV, fieldAddrV, fieldOf, sliceV, storeAt, cellsAt, takeV, partV, nextV, strOp, cfst, csnd, mapHd_some, hdS_mk, canonK_some, reach_nil, reach_cons, reachGo, clearTm, refsL, V.refs, Blk.refs, renL, V.ren, Blk.ren, indexOf, subHeap, resultsR, leaveR_some, lastK_ret, lastK_exit, fin_ret, fin_normal, leave_int, leave_bool, leave_str, bytB, Tryd.f34, h1, strV]
  · have h1 := h .slz (.inr (.inl rfl))
    unfold bytNil at h1
    simp -implicitDefEqProofs [run_seq, run_then, run_then_ret, run_then_exit, run_region, run_regionK, run_cond, run_cond_true, run_cond_false, run_block, run_block_exit, run_block_ret, run_block_normal, evCode_exit, evCode_ret, evCode_skip, evRegion_seq, run_seqs, run_seqK, evSeq_zero, run_step, run_stepO, run_stepK_true, run_stepK_false, run_stepR, wantedV, evOp, evOpR, opd, putTm, putAll, ofValue, ofScalar, binV, intOp, unV, und_p, size_p, bytesOf_p, zeroV_p, aggT_p, size3, size5, size9, size22, size24, size25, size27, size28, size29, size31, size40, size42, size47, agg3, agg5, agg9, agg22, agg24, agg25, agg27, agg28, agg29, agg31, agg40, agg42, agg47, bytesOf3, bytesOf5, bytesOf9, bytesOf42, bytesOf47, zeroV3, zeroV5, zeroV9, zeroV24, zeroV27, zeroV31, zeroV42, zeroV47, Tryd.underlying3, Tryd.underlying5, Tryd.underlying9, Tryd.underlying22, Tryd.underlying24, Tryd.underlying27, Tryd.underlying28, Tryd.underlying29, Tryd.underlying31, Tryd.underlying40, Tryd.underlying42, Tryd.underlying47, Tryd.underlying51, Tryd.underlying61, Tryd.underlying78, wrapI64, builtinV, convV, len9, len_nil, len_slz, len_sl, len_msl, slT, minV, asI, asN, ce_int, ce_str, ce_bool, ce_agg, ce_msl, ce_sl, ce_nilsl, sc_int, sc_str, sc_bool, sc_msl, sc_sl, sc_nilsl, sc_slz, fillV, splice, Heap.put, Heap.get, appendV, srcCells, cellsOf, rowOf, zerosT, isIntT, isStr, maxBytes, indexAddrV, fieldAddrV, fieldOf, sliceV, storeAt, cellsAt, takeV, partV, nextV, strOp, cfst, csnd, mapHd_some, hdS_mk, canonK_some, reach_nil, reach_cons, reachGo, clearTm, refsL, V.refs, Blk.refs, renL, V.ren, Blk.ren, indexOf, subHeap, resultsR, leaveR_some, lastK_ret, lastK_exit, fin_ret, fin_normal, leave_int, leave_bool, leave_str, bytB, Tryd.f34, h1, strV]
  · have h1 := h (.sl 1 0 []) (.inr (.inr rfl))
    unfold bytNil at h1
    simp -implicitDefEqProofs [run_seq, run_then, run_then_ret, run_then_exit, run_region, run_regionK, run_cond, run_cond_true, run_cond_false, run_block, run_block_exit, run_block_ret, run_block_normal, evCode_exit, evCode_ret, evCode_skip, evRegion_seq, run_seqs, run_seqK, evSeq_zero, run_step, run_stepO, run_stepK_true, run_stepK_false, run_stepR, wantedV, evOp, evOpR, opd, putTm, putAll, ofValue, ofScalar, binV, intOp, unV, und_p, size_p, bytesOf_p, zeroV_p, aggT_p, size3, size5, size9, size22, size24, size25, size27, size28, size29, size31, size40, size42, size47, agg3, agg5, agg9, agg22, agg24, agg25, agg27, agg28, agg29, agg31, agg40, agg42, agg47, bytesOf3, bytesOf5, bytesOf9, bytesOf42, bytesOf47, zeroV3, zeroV5, zeroV9, zeroV24, zeroV27, zeroV31, zeroV42, zeroV47, Tryd.underlying3, Tryd.underlying5, Tryd.underlying9, Tryd.underlying22, Tryd.underlying24, Tryd.underlying27, Tryd.underlying28, Tryd.underlying29, Tryd.underlying31, Tryd.underlying40, Tryd.underlying42, Tryd.underlying47, Tryd.underlying51, Tryd.underlying61, Tryd.underlying78, wrapI64, builtinV, convV, len9, len_nil, len_slz, len_sl, len_msl, slT, minV, asI, asN, ce_int, ce_str, ce_bool, ce_agg, ce_msl, ce_sl, ce_nilsl, sc_int, sc_str, sc_bool, sc_msl, sc_sl, sc_nilsl, sc_slz, fillV, splice, Heap.put, Heap.get, appendV, srcCells, cellsOf, rowOf, zerosT, isIntT, isStr, maxBytes, indexAddrV, fieldAddrV, fieldOf, sliceV, storeAt, cellsAt, takeV, partV, nextV, strOp, cfst, csnd, mapHd_some, hdS_mk, canonK_some, reach_nil, reach_cons, reachGo, clearTm, refsL, V.refs, Blk.refs, renL, V.ren, Blk.ren, indexOf, subHeap, resultsR, leaveR_some, lastK_ret, lastK_exit, fin_ret, fin_normal, leave_int, leave_bool, leave_str, bytB, Tryd.f34, h1, strV]
/-- What a slice of bytes is read as. -/
def dataOf : V → Option (List Int)
  | .nilsl => some []
  | .slz => some []
  | .sl 1 len cs => match intsOf cs with
    | some bs => if True ∧ bs.length = len ∧ bs.length ≤ 100000000000 ∧ (∀ x ∈ bs, 0 ≤ x ∧ x < 256) then some bs else none
    | none => none
  | _ => none
where intsOf : List V → Option (List Int)
  | [] => some []
  | .int .u8 n :: r => (intsOf r).map (n :: ·)
  | _ => none
theorem intsOf_eq : ∀ (cs : List V) (bs : List Int), dataOf.intsOf cs = some bs → cs = bytesI bs
  | [], bs, h => by simp [dataOf.intsOf] at h; subst h; rfl
  | c :: r, bs, h => by
    unfold dataOf.intsOf at h
    split at h
    · rename_i e
      exact absurd e (by simp)
    · rename_i n r' e
      cases e
      obtain ⟨l, h1, h2⟩ := Option.map_eq_some_iff.1 h
      subst h2
      rw [intsOf_eq r l h1]
      rfl
    · cases h
theorem intsOf_bytes : ∀ bs : List Int, dataOf.intsOf (bytesI bs) = some bs
  | [] => rfl
  | x :: r => by
    show (dataOf.intsOf (bytesI r)).map (x :: ·) = _
    rw [intsOf_bytes r]; rfl
def F34 (args : List V) (H : Heap) : Option (V × Heap) := match args, H with
  | [x], [] => match dataOf x with
    | some bs => some (.str (toBytes (hexI bs)), [])
    | none => none
  | _, _ => none
noncomputable def X2b : Ctx := X2.hook 34 F34
instance : Prg X2b := inferInstanceAs (Prg (X2.hook 34 F34))
theorem X2b_good : Good X2b := X2_good.hook fun args H r H' h => by
  unfold F34 at h
  split at h
  · split at h
    · rename_i x bs hd
      cases h
      unfold dataOf at hd
      split at hd
      · cases hd
        exact ⟨27, byt_nil _ (.inl rfl)⟩
      · cases hd
        exact ⟨27, byt_nil _ (.inr (.inl rfl))⟩
      · split at hd
        · rename_i len cs bs' he
          split at hd
          · rename_i hc
            cases hd
            obtain ⟨c1, c2, c3, c4⟩ := hc
            have e := intsOf_eq _ _ he
            subst e
            subst c2
            by_cases hb : bs = []
            · subst hb
              exact ⟨27, byt_nil _ (.inr (.inr rfl))⟩
            · exact ⟨_, byt_ev bs hb c3 c4⟩
          · cases hd
        · cases hd
      · cases hd
    · cases h
  · cases h
end Go.Ev
