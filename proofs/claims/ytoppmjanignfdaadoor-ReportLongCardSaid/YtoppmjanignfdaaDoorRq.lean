/- A part of the proof of ReportBack (the second form: what is handed in is of bulk at most 1048576): no statement of the seat's stands here. -/
import Derived.Test.YtoppmjanignfdaaDoorRp
set_option linter.unusedSectionVars false
set_option linter.unusedSimpArgs false
set_option linter.unusedVariables false
set_option linter.all false
set_option linter.unusedVariables false
set_option linter.unusedSimpArgs false
set_option linter.unusedSectionVars false
set_option maxRecDepth 100000
set_option maxHeartbeats 8000000
namespace Go.Ev
open Go Go.Proofs
attribute [local simp] run_seq run_then run_then_ret run_then_exit run_region run_regionK run_cond run_cond_true run_cond_false run_block run_block_exit run_block_ret run_block_normal evCode_exit evCode_ret evCode_skip evRegion_seq run_seqs run_seqK evSeq_zero run_step run_stepO run_stepK_true run_stepK_false run_stepR wantedV evOp evOpR opd putTm putAll ofValue ofScalar binV intOp unV und_p size_p bytesOf_p zeroV_p aggT_p size3 size5 size9 size22 size24 size25 size27 size28 size29 size31 size40 size42 size47 agg3 agg5 agg9 agg22 agg24 agg25 agg27 agg28 agg29 agg31 agg40 agg42 agg47 bytesOf3 bytesOf5 bytesOf9 bytesOf42 bytesOf47 zeroV3 zeroV5 zeroV9 zeroV24 zeroV27 zeroV31 zeroV42 zeroV47 Tryd.underlying3 Tryd.underlying5 Tryd.underlying9 Tryd.underlying22 Tryd.underlying24 Tryd.underlying27 Tryd.underlying28 Tryd.underlying29 Tryd.underlying31 Tryd.underlying40 Tryd.underlying42 Tryd.underlying47 Tryd.underlying51 Tryd.underlying61 Tryd.underlying78 wrapI64 builtinV convV len9 len_nil len_slz len_sl len_msl slT minV asI asN ce_int ce_str ce_bool ce_agg ce_msl ce_sl ce_nilsl sc_int sc_str sc_bool sc_msl sc_sl sc_nilsl sc_slz fillV splice Heap.put Heap.get appendV srcCells cellsOf rowOf zerosT isIntT isStr maxBytes indexAddrV fieldAddrV fieldOf sliceV storeAt cellsAt takeV partV nextV strOp cfst csnd mapHd_some hdS_mk canonK_some reach_nil reach_cons reachGo clearTm refsL V.refs Blk.refs renL V.ren Blk.ren indexOf subHeap resultsR leaveR_some lastK_ret lastK_exit fin_ret fin_normal leave_int leave_bool leave_str run_callV ext_p XR_x mut_p callA_tuple callB_some callC_some resolve_go resolveK_nil resolveK_cons mergeAt freezeRows freezeRow V.msls mslsL V.deep deepL V.resolve1 V.flat flatL c17 c34 c47 c71 evRegion_draw drawK_some run_cons run_traceK run_trace run_trace0 run_traceN run_traceC leave_yn canon_P canonPK_some canonPK.canonPL leaveB_mk rng1 rng2 rng3 rng4 rng5 rng6

theorem numsGo_len : ∀ (l : List (List UInt8)) (out o : List Int), numsGo l out = some o → o.length = out.length + l.length
  | [], out, o, h => by simp [numsGo] at h; subst h; simp
  | w :: r, out, o, h => by
    rw [numsGo] at h
    split at h
    · have := numsGo_len r _ _ h
      simp at this ⊢; omega
    · cases h
def cellR (r : Rep) (w0 w1 w2 : List UInt8) : Bool × Rep := match numsGo [w1, w2] [] with
  | some [s, e] => (protoOk w0, { r with cells := r.cells ++ [⟨protoN w0, s, e⟩] })
  | _ => (false, r)
theorem c61n (m : Nat) (r : Rep) (hr : RepOk r) (l : List (List UInt8)) (hl : l.length ≠ 3) : callWith X10 (evCode X10 (m + 100)) 61 [.ptr 0 0 0, .sl 1 l.length (strsV l)] (HR r) = some (.bool false, HR r) := by
  obtain ⟨hi, hs, hc⟩ := hr
  obtain ⟨f1, f2, f3⟩ := itemsV_flat r.short hi
  obtain ⟨d1, d2, d3⟩ := cellsV_flat r.cells
  have hd : decide ((l.length : Int) = 3) = false := by simp; omega
  refine top_fin (nt := 47) (res := #[.tmp 4]) rfl Tryd.func61 (by rw [Tryd.f61]) rfl rfl ?_
  by_cases h1 : r.short = []
  · by_cases h2 : r.cells = []
    · rw [HR_nn h1 h2]
      simp -implicitDefEqProofs [refsL_strs, mslsL_strs, renL_strs, hd]
    · rw [HR_nc h1 h2]
      simp -implicitDefEqProofs [refsL_strs, mslsL_strs, renL_strs, d2, hd]
  · by_cases h2 : r.cells = []
    · rw [HR_sn h1 h2]
      simp -implicitDefEqProofs [refsL_strs, mslsL_strs, renL_strs, f2, hd]
    · rw [HR_sc h1 h2]
      simp -implicitDefEqProofs [refsL_strs, mslsL_strs, renL_strs, f2, d2, hd]
theorem c61y (m : Nat) (r : Rep) (hr : RepOk r) (w0 w1 w2 : List UInt8) : callWith X10 (evCode X10 (m + 100)) 61 [.ptr 0 0 0, .sl 1 3 [.str w0, .str w1, .str w2]] (HR r) = some (.bool (cellR r w0 w1 w2).1, HR (cellR r w0 w1 w2).2) := by
  obtain ⟨hi, hs, hc⟩ := hr
  obtain ⟨f1, f2, f3⟩ := itemsV_flat r.short hi
  obtain ⟨d1, d2, d3⟩ := cellsV_flat r.cells
  have f4 : ∀ f, renL f (itemsV r.short) = itemsV r.short := fun f => renL_id f _ f2
  have d4 : ∀ f, renL f (cellsV r.cells) = cellsV r.cells := fun f => renL_id f _ d2
  have d5 := noScalar_of d3
  have hF0 := fun h => nums0 (l := [w1, w2]) (by simp) 2 h
  have hFN := fun (x : Int) (t : List Int) h => numsN (l := [w1, w2]) (by simp) 2 (x := x) (t := t) h
  simp only [List.length_cons, List.length_nil, strsV, List.map_cons, List.map_nil, Nat.zero_add, Nat.reduceAdd] at hF0 hFN
  have g1 : (2 * (r.cells.length + 1) + 1000) * 24 ≤ 70368744177664 := by omega
  have tk : (cellsV r.cells).take (r.cells.length * 3) = cellsV r.cells := List.take_of_length_le (by rw [cellsV_len]; omega)
  have hlen := cellsV_len r.cells
  have g2 : r.cells.length * 3 ≤ 3 * r.cells.length := by omega
  refine top_fin (nt := 47) (res := #[.tmp 4]) rfl Tryd.func61 (by rw [Tryd.f61]) rfl rfl ?_
  unfold cellR
  cases hn : numsGo [w1, w2] [] with
  | none =>
    have hF := hF0 hn
    simp only
    by_cases h1 : r.short = []
    · by_cases h2 : r.cells = []
      · rw [HR_nn h1 h2]
        cases e1 : protoOk w0
        · simp -implicitDefEqProofs [refsL_strs, mslsL_strs, renL_strs, c59, c41', hF, f2, f4, d2, d4, d5, g1, g2, tk, hlen, refsL_app', renL_app', cellsV_app, cellsV, e1, h2]
        · simp -implicitDefEqProofs [refsL_strs, mslsL_strs, renL_strs, c59, c41', hF, f2, f4, d2, d4, d5, g1, g2, tk, hlen, refsL_app', renL_app', cellsV_app, cellsV, e1, h2]
      · have hn' : r.cells.length - 1 + 1 = r.cells.length := by have := List.length_pos_iff.2 h2; omega
        rw [HR_nc h1 h2]
        cases e1 : protoOk w0
        · simp -implicitDefEqProofs [refsL_strs, mslsL_strs, renL_strs, c59, c41', hF, f2, f4, d2, d4, d5, g1, g2, tk, hlen, refsL_app', renL_app', cellsV_app, cellsV, e1, hn']
        · simp -implicitDefEqProofs [refsL_strs, mslsL_strs, renL_strs, c59, c41', hF, f2, f4, d2, d4, d5, g1, g2, tk, hlen, refsL_app', renL_app', cellsV_app, cellsV, e1, hn']
    · by_cases h2 : r.cells = []
      · rw [HR_sn h1 h2]
        cases e1 : protoOk w0
        · simp -implicitDefEqProofs [refsL_strs, mslsL_strs, renL_strs, c59, c41', hF, f2, f4, d2, d4, d5, g1, g2, tk, hlen, refsL_app', renL_app', cellsV_app, cellsV, e1, h2]
        · simp -implicitDefEqProofs [refsL_strs, mslsL_strs, renL_strs, c59, c41', hF, f2, f4, d2, d4, d5, g1, g2, tk, hlen, refsL_app', renL_app', cellsV_app, cellsV, e1, h2]
      · have hn' : r.cells.length - 1 + 1 = r.cells.length := by have := List.length_pos_iff.2 h2; omega
        rw [HR_sc h1 h2]
        cases e1 : protoOk w0
        · simp -implicitDefEqProofs [refsL_strs, mslsL_strs, renL_strs, c59, c41', hF, f2, f4, d2, d4, d5, g1, g2, tk, hlen, refsL_app', renL_app', cellsV_app, cellsV, e1, hn']
        · simp -implicitDefEqProofs [refsL_strs, mslsL_strs, renL_strs, c59, c41', hF, f2, f4, d2, d4, d5, g1, g2, tk, hlen, refsL_app', renL_app', cellsV_app, cellsV, e1, hn']
  | some out =>
    have hol := numsGo_len _ _ _ hn
    match out, hn, hol with
    | [s, e], hn, _ =>
      have hF := hFN s [e] hn
      have hd : decide ((([e].length : Nat) : Int) + 1 = 2) = true := by simp
      rw [hd] at hF
      simp only [List.length_cons, List.length_nil, intsV, List.map_cons, List.map_nil, Nat.zero_add, Nat.reduceAdd] at hF
      simp only
      by_cases h1 : r.short = []
      · by_cases h2 : r.cells = []
        · rw [HR_nn h1 h2, HR_nc (r := { r with cells := r.cells ++ [⟨protoN w0, s, e⟩] }) h1 (by simp)]
          cases e1 : protoOk w0
          · simp -implicitDefEqProofs [refsL_strs, mslsL_strs, renL_strs, c59, c41', hF, f2, f4, d2, d4, d5, g1, g2, tk, hlen, refsL_app', renL_app', cellsV_app, cellsV, e1, h2]
            rw [if_pos]
            rotate_left
            · kernel_rfl
            · simp -implicitDefEqProofs [refsL_strs, mslsL_strs, renL_strs, c59, c41', hF, f2, f4, d2, d4, d5, g1, g2, tk, hlen, refsL_app', renL_app', cellsV_app, cellsV, e1, h2]
          · simp -implicitDefEqProofs [refsL_strs, mslsL_strs, renL_strs, c59, c41', hF, f2, f4, d2, d4, d5, g1, g2, tk, hlen, refsL_app', renL_app', cellsV_app, cellsV, e1, h2]
            rw [if_pos]
            rotate_left
            · kernel_rfl
            · simp -implicitDefEqProofs [refsL_strs, mslsL_strs, renL_strs, c59, c41', hF, f2, f4, d2, d4, d5, g1, g2, tk, hlen, refsL_app', renL_app', cellsV_app, cellsV, e1, h2]
        · have hn' : r.cells.length - 1 + 1 = r.cells.length := by have := List.length_pos_iff.2 h2; omega
          rw [HR_nc h1 h2, HR_nc (r := { r with cells := r.cells ++ [⟨protoN w0, s, e⟩] }) h1 (by simp)]
          cases e1 : protoOk w0
          · simp -implicitDefEqProofs [refsL_strs, mslsL_strs, renL_strs, c59, c41', hF, f2, f4, d2, d4, d5, g1, g2, tk, hlen, refsL_app', renL_app', cellsV_app, cellsV, e1, hn']
            rw [if_pos]
            rotate_left
            · kernel_rfl
            · simp -implicitDefEqProofs [refsL_strs, mslsL_strs, renL_strs, c59, c41', hF, f2, f4, d2, d4, d5, g1, g2, tk, hlen, refsL_app', renL_app', cellsV_app, cellsV, e1, hn']
          · simp -implicitDefEqProofs [refsL_strs, mslsL_strs, renL_strs, c59, c41', hF, f2, f4, d2, d4, d5, g1, g2, tk, hlen, refsL_app', renL_app', cellsV_app, cellsV, e1, hn']
            rw [if_pos]
            rotate_left
            · kernel_rfl
            · simp -implicitDefEqProofs [refsL_strs, mslsL_strs, renL_strs, c59, c41', hF, f2, f4, d2, d4, d5, g1, g2, tk, hlen, refsL_app', renL_app', cellsV_app, cellsV, e1, hn']
      · by_cases h2 : r.cells = []
        · rw [HR_sn h1 h2, HR_sc (r := { r with cells := r.cells ++ [⟨protoN w0, s, e⟩] }) h1 (by simp)]
          cases e1 : protoOk w0
          · simp -implicitDefEqProofs [refsL_strs, mslsL_strs, renL_strs, c59, c41', hF, f2, f4, d2, d4, d5, g1, g2, tk, hlen, refsL_app', renL_app', cellsV_app, cellsV, e1, h2]
            rw [if_pos]
            rotate_left
            · kernel_rfl
            · simp -implicitDefEqProofs [refsL_strs, mslsL_strs, renL_strs, c59, c41', hF, f2, f4, d2, d4, d5, g1, g2, tk, hlen, refsL_app', renL_app', cellsV_app, cellsV, e1, h2]
          · simp -implicitDefEqProofs [refsL_strs, mslsL_strs, renL_strs, c59, c41', hF, f2, f4, d2, d4, d5, g1, g2, tk, hlen, refsL_app', renL_app', cellsV_app, cellsV, e1, h2]
            rw [if_pos]
            rotate_left
            · kernel_rfl
            · simp -implicitDefEqProofs [refsL_strs, mslsL_strs, renL_strs, c59, c41', hF, f2, f4, d2, d4, d5, g1, g2, tk, hlen, refsL_app', renL_app', cellsV_app, cellsV, e1, h2]
        · have hn' : r.cells.length - 1 + 1 = r.cells.length := by have := List.length_pos_iff.2 h2; omega
          rw [HR_sc h1 h2, HR_sc (r := { r with cells := r.cells ++ [⟨protoN w0, s, e⟩] }) h1 (by simp)]
          cases e1 : protoOk w0
          · simp -implicitDefEqProofs [refsL_strs, mslsL_strs, renL_strs, c59, c41', hF, f2, f4, d2, d4, d5, g1, g2, tk, hlen, refsL_app', renL_app', cellsV_app, cellsV, e1, hn']
            rw [if_pos]
            rotate_left
            · kernel_rfl
            · simp -implicitDefEqProofs [refsL_strs, mslsL_strs, renL_strs, c59, c41', hF, f2, f4, d2, d4, d5, g1, g2, tk, hlen, refsL_app', renL_app', cellsV_app, cellsV, e1, hn']
          · simp -implicitDefEqProofs [refsL_strs, mslsL_strs, renL_strs, c59, c41', hF, f2, f4, d2, d4, d5, g1, g2, tk, hlen, refsL_app', renL_app', cellsV_app, cellsV, e1, hn']
            rw [if_pos]
            rotate_left
            · kernel_rfl
            · simp -implicitDefEqProofs [refsL_strs, mslsL_strs, renL_strs, c59, c41', hF, f2, f4, d2, d4, d5, g1, g2, tk, hlen, refsL_app', renL_app', cellsV_app, cellsV, e1, hn']
    | [], _, h => exact absurd h (by simp)
    | [_], _, h => exact absurd h (by simp)
    | _ :: _ :: _ :: _, _, h => exact absurd h (by simp)
end Go.Ev
