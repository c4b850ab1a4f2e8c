/- A part of the proof of ReportBack (the second form: what is handed in is of bulk at most 1048576): no statement of the seat's stands here. -/
import Derived.Test.YtoppmjanignfdaaDoorRw
set_option linter.unusedSectionVars false
set_option linter.unusedSimpArgs false
set_option linter.unusedVariables false
set_option linter.all false
set_option linter.unusedVariables false
set_option linter.unusedSimpArgs false
set_option linter.unusedSectionVars false
set_option maxRecDepth 100000
set_option maxHeartbeats 8000000
namespace Go.Ev
open Go Go.Proofs
def getS (s : List UInt8) : Nat → Nat → Nat → Rep → V
  | 0, _, _, _ => errV 0 0
  | n + 1, p, i, r => match cutAt 10 (s.drop p) with
    | none => errV s.length 2
    | some c => if 2 < i ∧ c.1 = [101, 110, 100] then (if p + 4 < s.length then errV ((p + 4 : Nat) : Int) 3 else okV r)
      else if (lineS r i c.1).1 = true then getS s n (p + c.1.length + 1) (i + 1) (lineS r i c.1).2 else errV p 3
def rep0 : Rep := ⟨0, 0, 0, 0, 0, [], []⟩
def getV (s : List UInt8) : V := if 1048576 < s.length then errV 0 4 else getS s (s.length + 1) 0 0 rep0
theorem step_all (m : Nat) (s : List UInt8) (hs : s.length ≤ 1048576) (at' i : Nat) (hat : at' ≤ s.length) (hi' : i ≤ 1048576) (r : Rep) (hr : RepOk r) (rest : List UInt8) (hrest : (s.drop at').take (s.length - at') = rest) (hrl : rest.length ≤ 1000000000)
    (text more : List UInt8) (hc : cutAt 10 rest = some (text, more)) (hne : ¬ (2 < i ∧ text = [101, 110, 100])) (htl : at' + text.length + 1 ≤ s.length) :
    ((lineS r i text).1 = false → lastK K9 (evCode X10 (m + 300) 9 0 L9 (S9 s at' i r)) = some (errV at' 3, [])) ∧
    ((lineS r i text).1 = true → mapHd [16, 15, 73, 72, 71, 70, 69, 68, 67, 66, 61, 65, 64, 63, 62, 60, 59, 52, 58, 57, 56, 55, 54, 53, 51, 50, 49, 48, 47, 32, 46, 45, 44, 43, 42, 41, 40, 39, 38, 37, 36, 35, 34, 33, 31, 30, 29, 28, 25, 27, 26, 9, 8, 7, 24, 23, 22, 17, 21, 20, 19, 18] (evCode X10 (m + 300) 9 0 L9 (S9 s at' i r)) = some (.normal, S9 s (at' + text.length + 1) (i + 1) (lineS r i text).2)) := by
  have htx : text.length ≤ 1000000000 := by omega
  obtain ⟨⟨l1, l2, l3⟩, gi, _, gs, gc⟩ := lineS_grow hr i text htx
  have hcl := fun m => c20 m r hr i text htx
  generalize (lineS r i text).1 = b at *
  generalize (lineS r i text).2 = r' at *
  by_cases h1 : r.short = []
  · by_cases h2 : r.cells = []
    · by_cases k1 : r'.short = []
      · by_cases k2 : r'.cells = []
        · exact step_nn_nn m s hs at' i hat hi' r hr rest hrest hrl text more hc hne htl r' gi b hcl h1 h2 k1 k2
        · exact step_nn_nc m s hs at' i hat hi' r hr rest hrest hrl text more hc hne htl r' gi b hcl h1 h2 k1 k2
      · by_cases k2 : r'.cells = []
        · exact step_nn_sn m s hs at' i hat hi' r hr rest hrest hrl text more hc hne htl r' gi b hcl h1 h2 k1 k2
        · exact absurd ⟨h1, h2, k1, k2⟩ l3
    · exact step_nc_nc m s hs at' i hat hi' r hr rest hrest hrl text more hc hne htl r' gi b hcl h1 h2 ((l1 h2).1.2 h1) (l1 h2).2
  · by_cases h2 : r.cells = []
    · by_cases k2 : r'.cells = []
      · exact step_sn_sn m s hs at' i hat hi' r hr rest hrest hrl text more hc hne htl r' gi b hcl h1 h2 (l2 h1) k2
      · exact step_sn_sc m s hs at' i hat hi' r hr rest hrest hrl text more hc hne htl r' gi b hcl h1 h2 (l2 h1) k2
    · exact step_sc_sc m s hs at' i hat hi' r hr rest hrest hrl text more hc hne htl r' gi b hcl h1 h2 (l2 h1) (l1 h2).2
theorem loop9 (s : List UInt8) (hs : s.length ≤ 1048576) (st : St) (hst : hdS [16, 15, 73, 72, 71, 70, 69, 68, 67, 66, 61, 65, 64, 63, 62, 60, 59, 52, 58, 57, 56, 55, 54, 53, 51, 50, 49, 48, 47, 32, 46, 45, 44, 43, 42, 41, 40, 39, 38, 37, 36, 35, 34, 33, 31, 30, 29, 28, 25, 27, 26, 9, 8, 7, 24, 23, 22, 17, 21, 20, 19, 18] st = S9 s 0 0 rep0) :
    K9 (evCode X10 (s.length + 1 + 300 + 1) 9 0 (.loop L9) st) = some (getS s (s.length + 1) 0 0 rep0, []) := by
  refine loop_run clears9 (fun a : Nat × Nat × Nat × Rep => S9 s a.2.1 a.2.2.1 a.2.2.2) (fun a => a.2.1 ≤ s.length ∧ a.2.2.1 ≤ a.2.1 ∧ s.length + 1 ≤ a.1 + a.2.1 ∧ (∀ t ∈ a.2.2.2.short, t.ok) ∧ a.2.2.2.short.length + a.2.2.2.cells.length ≤ a.2.2.1)
    (fun a => a.1) (fun a => (getS s a.1 a.2.1 a.2.2.1 a.2.2.2, [])) K9 300 ?_ (s.length + 1) (s.length + 1, 0, 0, rep0) st (Nat.le_refl _) (by simp [rep0]) hst
  rintro ⟨n, p, i, r⟩ ⟨hp, hip, hn, hk, hl⟩
  simp only at hp hip hn hk hl ⊢
  obtain ⟨n, rfl⟩ : ∃ k, n = k + 1 := ⟨n - 1, by omega⟩
  have hr : RepOk r := ⟨hk, by omega, by omega⟩
  have hrl : (s.drop p).length = s.length - p := List.length_drop
  have hrest : (s.drop p).take (s.length - p) = s.drop p := List.take_of_length_le (by omega)
  rw [getS]
  cases hc : cutAt 10 (s.drop p) with
  | none =>
    right
    intro m
    exact get_a m s hs p i hp (by omega) r hr _ hrest (by omega) hc
  | some c =>
    obtain ⟨text, more⟩ := c
    simp only
    have he := cutAt_eq 10 _ _ hc
    simp only at he
    have hlen : (s.drop p).length = text.length + (more.length + 1) := by rw [he]; simp
    by_cases hend : 2 < i ∧ text = [101, 110, 100]
    · right
      intro m
      rw [if_pos hend]
      by_cases hlt : p + 4 < s.length
      · rw [if_pos hlt]
        exact get_b m s hs p i hp (by omega) r hr _ hrest (by omega) text more hc hend.1 hend.2 hlt
      · rw [if_neg hlt]
        exact get_c m s hs p i hp (by omega) r hr _ hrest (by omega) text more hc hend.1 hend.2 hlt
    · rw [if_neg hend]
      have hstep := fun m => step_all m s hs p i hp (by omega) r hr _ hrest (by omega) text more hc hend (by omega)
      cases hb : (lineS r i text).1 with
      | false =>
        right
        intro m
        rw [if_neg (by simp)]
        exact (hstep m).1 hb
      | true =>
        left
        obtain ⟨_, gi, gl, _, _⟩ := lineS_grow hr i text (by omega)
        refine ⟨(n, p + text.length + 1, i + 1, (lineS r i text).2), ⟨by show p + text.length + 1 ≤ _; omega, by show i + 1 ≤ p + text.length + 1; omega, by show s.length + 1 ≤ n + (p + text.length + 1); omega, gi, by show (lineS r i text).2.short.length + (lineS r i text).2.cells.length ≤ i + 1; omega⟩, by show n < n + 1; omega, by rw [if_pos rfl], fun m => (hstep m).2 hb⟩
theorem ev9 (s : List UInt8) : evCall X10 (s.length + 308) 9 [.str s] [] = some (getV s, []) := by
  refine call_fin (nt := 74) (res := #[.cell 2 31, .cell 3 24]) rfl (fn_p Tryd.func9) shape9 rfl rfl ?_
  unfold getV
  by_cases hl : 1048576 < s.length
  · have hl' : (1048576 : Int) < s.length := by omega
    rw [if_pos hl]
    simp -implicitDefEqProofs [run_seq, run_then, run_then_ret, run_then_exit, run_region, run_regionK, run_cond, run_cond_true, run_cond_false, run_block, run_block_exit, run_block_ret, run_block_normal, evCode_exit, evCode_ret, evCode_skip, evRegion_seq, run_seqs, run_seqK, evSeq_zero, run_step, run_stepO, run_stepK_true, run_stepK_false, run_stepR, wantedV, evOp, evOpR, opd, putTm, putAll, ofValue, ofScalar, binV, intOp, unV, und_p, size_p, bytesOf_p, zeroV_p, aggT_p, size3, size5, size9, size22, size24, size25, size27, size28, size29, size31, size40, size42, size47, agg3, agg5, agg9, agg22, agg24, agg25, agg27, agg28, agg29, agg31, agg40, agg42, agg47, bytesOf3, bytesOf5, bytesOf9, bytesOf42, bytesOf47, zeroV3, zeroV5, zeroV9, zeroV24, zeroV27, zeroV31, zeroV42, zeroV47, Tryd.underlying3, Tryd.underlying5, Tryd.underlying9, Tryd.underlying22, Tryd.underlying24, Tryd.underlying27, Tryd.underlying28, Tryd.underlying29, Tryd.underlying31, Tryd.underlying40, Tryd.underlying42, Tryd.underlying47, Tryd.underlying51, Tryd.underlying61, Tryd.underlying78, wrapI64, builtinV, convV, len9, len_nil, len_slz, len_sl, len_msl, slT, minV, asI, asN, ce_int, ce_str, ce_bool, ce_agg, ce_msl, ce_sl, ce_nilsl, sc_int, sc_str, sc_bool, sc_msl, sc_sl, sc_nilsl, sc_slz, fillV, splice, Heap.put, Heap.get, appendV, srcCells, cellsOf, rowOf, zerosT, isIntT, isStr, maxBytes, indexAddrV, fieldAddrV, fieldOf, sliceV, storeAt, cellsAt, takeV, partV, nextV, strOp, cfst, csnd, mapHd_some, hdS_mk, canonK_some, reach_nil, reach_cons, reachGo, clearTm, refsL, V.refs, Blk.refs, renL, V.ren, Blk.ren, indexOf, subHeap, resultsR, leaveR_some, lastK_ret, lastK_exit, fin_ret, fin_normal, leave_int, leave_bool, leave_str, run_callV, ext_p, XR_x, mut_p, callA_tuple, callB_some, callC_some, resolve_go, resolveK_nil, resolveK_cons, mergeAt, freezeRows, freezeRow, V.msls, mslsL, V.deep, deepL, V.resolve1, V.flat, flatL, c17, c34, c47, c71, evRegion_draw, drawK_some, run_cons, run_traceK, run_trace, run_trace0, run_traceN, run_traceC, leave_yn, canon_P, canonPK_some, canonPK.canonPL, leaveB_mk, rng1, rng2, rng3, rng4, rng5, rng6, resultsR, B9, Tryd.f9, hl', errV, z8, leave_go, leaveK_pure]
  · have hl' : ¬ (1048576 : Int) < s.length := by omega
    rw [if_neg hl]
    simp -implicitDefEqProofs [run_seq, run_then, run_then_ret, run_then_exit, run_region, run_regionK, run_cond, run_cond_true, run_cond_false, run_block, run_block_exit, run_block_ret, run_block_normal, evCode_exit, evCode_ret, evCode_skip, evRegion_seq, run_seqs, run_seqK, evSeq_zero, run_step, run_stepO, run_stepK_true, run_stepK_false, run_stepR, wantedV, evOp, evOpR, opd, putTm, putAll, ofValue, ofScalar, binV, intOp, unV, und_p, size_p, bytesOf_p, zeroV_p, aggT_p, size3, size5, size9, size22, size24, size25, size27, size28, size29, size31, size40, size42, size47, agg3, agg5, agg9, agg22, agg24, agg25, agg27, agg28, agg29, agg31, agg40, agg42, agg47, bytesOf3, bytesOf5, bytesOf9, bytesOf42, bytesOf47, zeroV3, zeroV5, zeroV9, zeroV24, zeroV27, zeroV31, zeroV42, zeroV47, Tryd.underlying3, Tryd.underlying5, Tryd.underlying9, Tryd.underlying22, Tryd.underlying24, Tryd.underlying27, Tryd.underlying28, Tryd.underlying29, Tryd.underlying31, Tryd.underlying40, Tryd.underlying42, Tryd.underlying47, Tryd.underlying51, Tryd.underlying61, Tryd.underlying78, wrapI64, builtinV, convV, len9, len_nil, len_slz, len_sl, len_msl, slT, minV, asI, asN, ce_int, ce_str, ce_bool, ce_agg, ce_msl, ce_sl, ce_nilsl, sc_int, sc_str, sc_bool, sc_msl, sc_sl, sc_nilsl, sc_slz, fillV, splice, Heap.put, Heap.get, appendV, srcCells, cellsOf, rowOf, zerosT, isIntT, isStr, maxBytes, indexAddrV, fieldAddrV, fieldOf, sliceV, storeAt, cellsAt, takeV, partV, nextV, strOp, cfst, csnd, mapHd_some, hdS_mk, canonK_some, reach_nil, reach_cons, reachGo, clearTm, refsL, V.refs, Blk.refs, renL, V.ren, Blk.ren, indexOf, subHeap, resultsR, leaveR_some, lastK_ret, lastK_exit, fin_ret, fin_normal, leave_int, leave_bool, leave_str, run_callV, ext_p, XR_x, mut_p, callA_tuple, callB_some, callC_some, resolve_go, resolveK_nil, resolveK_cons, mergeAt, freezeRows, freezeRow, V.msls, mslsL, V.deep, deepL, V.resolve1, V.flat, flatL, c17, c34, c47, c71, evRegion_draw, drawK_some, run_cons, run_traceK, run_trace, run_trace0, run_traceN, run_traceC, leave_yn, canon_P, canonPK_some, canonPK.canonPL, leaveB_mk, rng1, rng2, rng3, rng4, rng5, rng6, B9, Tryd.f9, hl']
    have hh := loop9 s (by omega)
    unfold K9 at hh
    refine hh _ ?_
    unfold S9
    rw [H9_nn rfl rfl]
    simp -implicitDefEqProofs [mapHd_some, hdS_mk, canonK_some, reach_nil, reach_cons, reachGo, clearTm, refsL, V.refs, Blk.refs, renL, V.ren, Blk.ren, indexOf, subHeap, Heap.get, z8, rep0]
def F9 (args : List V) (H : Heap) : Option (V × Heap) := match args, H with
  | [.str s], [] => some (getV s, [])
  | _, _ => none
def F8 (args : List V) (H : Heap) : Option (V × Heap) := match args, H with
  | [v], [] => match repOf v with
    | some r => if (textOf r).length ≤ 140737488355328 then some (putV r, []) else none
    | none => none
  | _, _ => none
noncomputable def X11 : Ctx := X10.hook 9 F9
instance : Mid X11 := Mid.hook (inferInstanceAs (Mid X10)) F9 (by decide)
theorem X11_good : Good X11 := X10_good.hook fun args H r H' h => by
  unfold F9 at h
  split at h
  · rename_i s
    cases h
    exact ⟨_, ev9 s⟩
  · cases h
noncomputable def X12 : Ctx := X11.hook 8 F8
instance : Mid X12 := Mid.hook (inferInstanceAs (Mid X11)) F8 (by decide)
theorem X12_good : Good X12 := X11_good.hook fun args H r H' h => by
  unfold F8 at h
  split at h
  · rename_i v
    split at h
    · rename_i rep hrep
      split at h
      · rename_i hT
        cases h
        exact ⟨_, ev8 rfl v rep hrep hT⟩
      · cases h
    · cases h
  · cases h
end Go.Ev
