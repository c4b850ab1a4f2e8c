/- A part of the proof of ReportBack (the second form: what is handed in is of bulk at most 1048576): no statement of the seat's stands here. -/
import Derived.Test.YtoppmjanignfdaaDoorRv
set_option linter.unusedSectionVars false
set_option linter.unusedSimpArgs false
set_option linter.unusedVariables false
set_option linter.all false
set_option linter.unusedVariables false
set_option linter.unusedSimpArgs false
set_option linter.unusedSectionVars false
set_option maxRecDepth 100000
set_option maxHeartbeats 8000000
namespace Go.Ev
open Go Go.Proofs
attribute [local simp] run_seq run_then run_then_ret run_then_exit run_region run_regionK run_cond run_cond_true run_cond_false run_block run_block_exit run_block_ret run_block_normal evCode_exit evCode_ret evCode_skip evRegion_seq run_seqs run_seqK evSeq_zero run_step run_stepO run_stepK_true run_stepK_false run_stepR wantedV evOp evOpR opd putTm putAll ofValue ofScalar binV intOp unV und_p size_p bytesOf_p zeroV_p aggT_p size3 size5 size9 size22 size24 size25 size27 size28 size29 size31 size40 size42 size47 agg3 agg5 agg9 agg22 agg24 agg25 agg27 agg28 agg29 agg31 agg40 agg42 agg47 bytesOf3 bytesOf5 bytesOf9 bytesOf42 bytesOf47 zeroV3 zeroV5 zeroV9 zeroV24 zeroV27 zeroV31 zeroV42 zeroV47 Tryd.underlying3 Tryd.underlying5 Tryd.underlying9 Tryd.underlying22 Tryd.underlying24 Tryd.underlying27 Tryd.underlying28 Tryd.underlying29 Tryd.underlying31 Tryd.underlying40 Tryd.underlying42 Tryd.underlying47 Tryd.underlying51 Tryd.underlying61 Tryd.underlying78 wrapI64 builtinV convV len9 len_nil len_slz len_sl len_msl slT minV asI asN ce_int ce_str ce_bool ce_agg ce_msl ce_sl ce_nilsl sc_int sc_str sc_bool sc_msl sc_sl sc_nilsl sc_slz fillV splice Heap.put Heap.get appendV srcCells cellsOf rowOf zerosT isIntT isStr maxBytes indexAddrV fieldAddrV fieldOf sliceV storeAt cellsAt takeV partV nextV strOp cfst csnd mapHd_some hdS_mk canonK_some reach_nil reach_cons reachGo clearTm refsL V.refs Blk.refs renL V.ren Blk.ren indexOf subHeap resultsR leaveR_some lastK_ret lastK_exit fin_ret fin_normal leave_int leave_bool leave_str run_callV ext_p XR_x mut_p callA_tuple callB_some callC_some resolve_go resolveK_nil resolveK_cons mergeAt freezeRows freezeRow V.msls mslsL V.deep deepL V.resolve1 V.flat flatL c17 c34 c47 c71 evRegion_draw drawK_some run_cons run_traceK run_trace run_trace0 run_traceN run_traceC leave_yn canon_P canonPK_some canonPK.canonPL leaveB_mk rng1 rng2 rng3 rng4 rng5 rng6
theorem step_nn_nn (m : Nat) (s : List UInt8) (hs : s.length ≤ 1048576) (at' i : Nat) (hat : at' ≤ s.length) (hi' : i ≤ 1048576) (r : Rep) (hr : RepOk r) (rest : List UInt8) (hrest : (s.drop at').take (s.length - at') = rest) (hrl : rest.length ≤ 1000000000) (text more : List UInt8) (hc : cutAt 10 rest = some (text, more)) (hne : ¬ (2 < i ∧ text = [101, 110, 100])) (htl : at' + text.length + 1 ≤ s.length) (r' : Rep) (hr' : ∀ i ∈ r'.short, i.ok) (b : Bool)
    (hcl : ∀ m, callWith X10 (evCode X10 (m + 200)) 20 [.ptr 0 0 0, .int .i64 i, .str text] (HR r) = some (.bool b, HR r'))
    (h1 : r.short = []) (h2 : r.cells = []) (k1 : r'.short = []) (k2 : r'.cells = []) :
    (b = false → lastK K9 (evCode X10 (m + 300) 9 0 L9 (S9 s at' i r)) = some (errV at' 3, [])) ∧
    (b = true → mapHd [16, 15, 73, 72, 71, 70, 69, 68, 67, 66, 61, 65, 64, 63, 62, 60, 59, 52, 58, 57, 56, 55, 54, 53, 51, 50, 49, 48, 47, 32, 46, 45, 44, 43, 42, 41, 40, 39, 38, 37, 36, 35, 34, 33, 31, 30, 29, 28, 25, 27, 26, 9, 8, 7, 24, 23, 22, 17, 21, 20, 19, 18] (evCode X10 (m + 300) 9 0 L9 (S9 s at' i r)) = some (.normal, S9 s (at' + text.length + 1) (i + 1) r')) := by
  have h19 := fun m => c19 (X := X10) m rest 10 hrl
  rw [hc] at h19
  obtain ⟨hi, hs', hc'⟩ := hr
  obtain ⟨f1, f2, f3⟩ := itemsV_flat r.short hi
  obtain ⟨d1, d2, d3⟩ := cellsV_flat r.cells
  have f4 : ∀ f, renL f (itemsV r.short) = itemsV r.short := fun f => renL_id f _ f2
  have d4 : ∀ f, renL f (cellsV r.cells) = cellsV r.cells := fun f => renL_id f _ d2
  have g0 : at' ≤ s.length := hat
  obtain ⟨u1, u2, u3⟩ := itemsV_flat r'.short hr'
  obtain ⟨v1, v2, v3⟩ := cellsV_flat r'.cells
  have u4 : ∀ f, renL f (itemsV r'.short) = itemsV r'.short := fun f => renL_id f _ u2
  have v4 : ∀ f, renL f (cellsV r'.cells) = cellsV r'.cells := fun f => renL_id f _ v2
  have w1 : IntKind.i64.wrap ((text.length : Int) + 1) = (text.length : Int) + 1 := wrapI64 (by omega) (by omega)
  have w2 : IntKind.i64.wrap ((at' : Int) + ((text.length : Int) + 1)) = (at' : Int) + ((text.length : Int) + 1) := wrapI64 (by omega) (by omega)
  have w3 : IntKind.i64.wrap ((i : Int) + 1) = (i : Int) + 1 := wrapI64 (by omega) (by omega)
  have e5 : (at' : Int) + (text.length : Int) + 1 = (at' : Int) + ((text.length : Int) + 1) := by omega
  rw [HR_nn h1 h2, HR_nn k1 k2] at hcl
  unfold S9
  rw [H9_nn h1 h2, H9_nn k1 k2]
  constructor
  · intro hb
    subst hb
    by_cases h3 : 2 < i
    · have i2 : (2 : Int) < (i : Int) := by omega
      have e6 : decide (text = [101, 110, 100]) = false := by simpa [h3] using hne
      simp -implicitDefEqProofs [resultsR, K9, L9, B9, Tryd.f9, S9, z8, errV, hrest, h19, g0, f2, d2, f4, d4, cutV, sameBytes_iff, leave_go, leaveK_pure, u2, v2, u4, v4, w1, w2, w3, e5, hcl, i2, h3, e6]
    · have i2 : ¬ (2 : Int) < (i : Int) := by omega
      simp -implicitDefEqProofs [resultsR, K9, L9, B9, Tryd.f9, S9, z8, errV, hrest, h19, g0, f2, d2, f4, d4, cutV, sameBytes_iff, leave_go, leaveK_pure, u2, v2, u4, v4, w1, w2, w3, e5, hcl, i2, h3]
  · intro hb
    subst hb
    by_cases h3 : 2 < i
    · have i2 : (2 : Int) < (i : Int) := by omega
      have e6 : decide (text = [101, 110, 100]) = false := by simpa [h3] using hne
      simp -implicitDefEqProofs [resultsR, K9, L9, B9, Tryd.f9, S9, z8, errV, hrest, h19, g0, f2, d2, f4, d4, cutV, sameBytes_iff, leave_go, leaveK_pure, u2, v2, u4, v4, w1, w2, w3, e5, hcl, i2, h3, e6]
    · have i2 : ¬ (2 : Int) < (i : Int) := by omega
      simp -implicitDefEqProofs [resultsR, K9, L9, B9, Tryd.f9, S9, z8, errV, hrest, h19, g0, f2, d2, f4, d4, cutV, sameBytes_iff, leave_go, leaveK_pure, u2, v2, u4, v4, w1, w2, w3, e5, hcl, i2, h3]
theorem step_nn_sn (m : Nat) (s : List UInt8) (hs : s.length ≤ 1048576) (at' i : Nat) (hat : at' ≤ s.length) (hi' : i ≤ 1048576) (r : Rep) (hr : RepOk r) (rest : List UInt8) (hrest : (s.drop at').take (s.length - at') = rest) (hrl : rest.length ≤ 1000000000) (text more : List UInt8) (hc : cutAt 10 rest = some (text, more)) (hne : ¬ (2 < i ∧ text = [101, 110, 100])) (htl : at' + text.length + 1 ≤ s.length) (r' : Rep) (hr' : ∀ i ∈ r'.short, i.ok) (b : Bool)
    (hcl : ∀ m, callWith X10 (evCode X10 (m + 200)) 20 [.ptr 0 0 0, .int .i64 i, .str text] (HR r) = some (.bool b, HR r'))
    (h1 : r.short = []) (h2 : r.cells = []) (k1 : r'.short ≠ []) (k2 : r'.cells = []) :
    (b = false → lastK K9 (evCode X10 (m + 300) 9 0 L9 (S9 s at' i r)) = some (errV at' 3, [])) ∧
    (b = true → mapHd [16, 15, 73, 72, 71, 70, 69, 68, 67, 66, 61, 65, 64, 63, 62, 60, 59, 52, 58, 57, 56, 55, 54, 53, 51, 50, 49, 48, 47, 32, 46, 45, 44, 43, 42, 41, 40, 39, 38, 37, 36, 35, 34, 33, 31, 30, 29, 28, 25, 27, 26, 9, 8, 7, 24, 23, 22, 17, 21, 20, 19, 18] (evCode X10 (m + 300) 9 0 L9 (S9 s at' i r)) = some (.normal, S9 s (at' + text.length + 1) (i + 1) r')) := by
  have h19 := fun m => c19 (X := X10) m rest 10 hrl
  rw [hc] at h19
  obtain ⟨hi, hs', hc'⟩ := hr
  obtain ⟨f1, f2, f3⟩ := itemsV_flat r.short hi
  obtain ⟨d1, d2, d3⟩ := cellsV_flat r.cells
  have f4 : ∀ f, renL f (itemsV r.short) = itemsV r.short := fun f => renL_id f _ f2
  have d4 : ∀ f, renL f (cellsV r.cells) = cellsV r.cells := fun f => renL_id f _ d2
  have g0 : at' ≤ s.length := hat
  obtain ⟨u1, u2, u3⟩ := itemsV_flat r'.short hr'
  obtain ⟨v1, v2, v3⟩ := cellsV_flat r'.cells
  have u4 : ∀ f, renL f (itemsV r'.short) = itemsV r'.short := fun f => renL_id f _ u2
  have v4 : ∀ f, renL f (cellsV r'.cells) = cellsV r'.cells := fun f => renL_id f _ v2
  have w1 : IntKind.i64.wrap ((text.length : Int) + 1) = (text.length : Int) + 1 := wrapI64 (by omega) (by omega)
  have w2 : IntKind.i64.wrap ((at' : Int) + ((text.length : Int) + 1)) = (at' : Int) + ((text.length : Int) + 1) := wrapI64 (by omega) (by omega)
  have w3 : IntKind.i64.wrap ((i : Int) + 1) = (i : Int) + 1 := wrapI64 (by omega) (by omega)
  have e5 : (at' : Int) + (text.length : Int) + 1 = (at' : Int) + ((text.length : Int) + 1) := by omega
  rw [HR_nn h1 h2, HR_sn k1 k2] at hcl
  unfold S9
  rw [H9_nn h1 h2, H9_sn k1 k2]
  constructor
  · intro hb
    subst hb
    by_cases h3 : 2 < i
    · have i2 : (2 : Int) < (i : Int) := by omega
      have e6 : decide (text = [101, 110, 100]) = false := by simpa [h3] using hne
      simp -implicitDefEqProofs [resultsR, K9, L9, B9, Tryd.f9, S9, z8, errV, hrest, h19, g0, f2, d2, f4, d4, cutV, sameBytes_iff, leave_go, leaveK_pure, u2, v2, u4, v4, w1, w2, w3, e5, hcl, i2, h3, e6]
    · have i2 : ¬ (2 : Int) < (i : Int) := by omega
      simp -implicitDefEqProofs [resultsR, K9, L9, B9, Tryd.f9, S9, z8, errV, hrest, h19, g0, f2, d2, f4, d4, cutV, sameBytes_iff, leave_go, leaveK_pure, u2, v2, u4, v4, w1, w2, w3, e5, hcl, i2, h3]
  · intro hb
    subst hb
    by_cases h3 : 2 < i
    · have i2 : (2 : Int) < (i : Int) := by omega
      have e6 : decide (text = [101, 110, 100]) = false := by simpa [h3] using hne
      simp -implicitDefEqProofs [resultsR, K9, L9, B9, Tryd.f9, S9, z8, errV, hrest, h19, g0, f2, d2, f4, d4, cutV, sameBytes_iff, leave_go, leaveK_pure, u2, v2, u4, v4, w1, w2, w3, e5, hcl, i2, h3, e6]
    · have i2 : ¬ (2 : Int) < (i : Int) := by omega
      simp -implicitDefEqProofs [resultsR, K9, L9, B9, Tryd.f9, S9, z8, errV, hrest, h19, g0, f2, d2, f4, d4, cutV, sameBytes_iff, leave_go, leaveK_pure, u2, v2, u4, v4, w1, w2, w3, e5, hcl, i2, h3]
theorem step_nn_nc (m : Nat) (s : List UInt8) (hs : s.length ≤ 1048576) (at' i : Nat) (hat : at' ≤ s.length) (hi' : i ≤ 1048576) (r : Rep) (hr : RepOk r) (rest : List UInt8) (hrest : (s.drop at').take (s.length - at') = rest) (hrl : rest.length ≤ 1000000000) (text more : List UInt8) (hc : cutAt 10 rest = some (text, more)) (hne : ¬ (2 < i ∧ text = [101, 110, 100])) (htl : at' + text.length + 1 ≤ s.length) (r' : Rep) (hr' : ∀ i ∈ r'.short, i.ok) (b : Bool)
    (hcl : ∀ m, callWith X10 (evCode X10 (m + 200)) 20 [.ptr 0 0 0, .int .i64 i, .str text] (HR r) = some (.bool b, HR r'))
    (h1 : r.short = []) (h2 : r.cells = []) (k1 : r'.short = []) (k2 : r'.cells ≠ []) :
    (b = false → lastK K9 (evCode X10 (m + 300) 9 0 L9 (S9 s at' i r)) = some (errV at' 3, [])) ∧
    (b = true → mapHd [16, 15, 73, 72, 71, 70, 69, 68, 67, 66, 61, 65, 64, 63, 62, 60, 59, 52, 58, 57, 56, 55, 54, 53, 51, 50, 49, 48, 47, 32, 46, 45, 44, 43, 42, 41, 40, 39, 38, 37, 36, 35, 34, 33, 31, 30, 29, 28, 25, 27, 26, 9, 8, 7, 24, 23, 22, 17, 21, 20, 19, 18] (evCode X10 (m + 300) 9 0 L9 (S9 s at' i r)) = some (.normal, S9 s (at' + text.length + 1) (i + 1) r')) := by
  have h19 := fun m => c19 (X := X10) m rest 10 hrl
  rw [hc] at h19
  obtain ⟨hi, hs', hc'⟩ := hr
  obtain ⟨f1, f2, f3⟩ := itemsV_flat r.short hi
  obtain ⟨d1, d2, d3⟩ := cellsV_flat r.cells
  have f4 : ∀ f, renL f (itemsV r.short) = itemsV r.short := fun f => renL_id f _ f2
  have d4 : ∀ f, renL f (cellsV r.cells) = cellsV r.cells := fun f => renL_id f _ d2
  have g0 : at' ≤ s.length := hat
  obtain ⟨u1, u2, u3⟩ := itemsV_flat r'.short hr'
  obtain ⟨v1, v2, v3⟩ := cellsV_flat r'.cells
  have u4 : ∀ f, renL f (itemsV r'.short) = itemsV r'.short := fun f => renL_id f _ u2
  have v4 : ∀ f, renL f (cellsV r'.cells) = cellsV r'.cells := fun f => renL_id f _ v2
  have w1 : IntKind.i64.wrap ((text.length : Int) + 1) = (text.length : Int) + 1 := wrapI64 (by omega) (by omega)
  have w2 : IntKind.i64.wrap ((at' : Int) + ((text.length : Int) + 1)) = (at' : Int) + ((text.length : Int) + 1) := wrapI64 (by omega) (by omega)
  have w3 : IntKind.i64.wrap ((i : Int) + 1) = (i : Int) + 1 := wrapI64 (by omega) (by omega)
  have e5 : (at' : Int) + (text.length : Int) + 1 = (at' : Int) + ((text.length : Int) + 1) := by omega
  rw [HR_nn h1 h2, HR_nc k1 k2] at hcl
  unfold S9
  rw [H9_nn h1 h2, H9_nc k1 k2]
  constructor
  · intro hb
    subst hb
    by_cases h3 : 2 < i
    · have i2 : (2 : Int) < (i : Int) := by omega
      have e6 : decide (text = [101, 110, 100]) = false := by simpa [h3] using hne
      simp -implicitDefEqProofs [resultsR, K9, L9, B9, Tryd.f9, S9, z8, errV, hrest, h19, g0, f2, d2, f4, d4, cutV, sameBytes_iff, leave_go, leaveK_pure, u2, v2, u4, v4, w1, w2, w3, e5, hcl, i2, h3, e6]
    · have i2 : ¬ (2 : Int) < (i : Int) := by omega
      simp -implicitDefEqProofs [resultsR, K9, L9, B9, Tryd.f9, S9, z8, errV, hrest, h19, g0, f2, d2, f4, d4, cutV, sameBytes_iff, leave_go, leaveK_pure, u2, v2, u4, v4, w1, w2, w3, e5, hcl, i2, h3]
  · intro hb
    subst hb
    by_cases h3 : 2 < i
    · have i2 : (2 : Int) < (i : Int) := by omega
      have e6 : decide (text = [101, 110, 100]) = false := by simpa [h3] using hne
      simp -implicitDefEqProofs [resultsR, K9, L9, B9, Tryd.f9, S9, z8, errV, hrest, h19, g0, f2, d2, f4, d4, cutV, sameBytes_iff, leave_go, leaveK_pure, u2, v2, u4, v4, w1, w2, w3, e5, hcl, i2, h3, e6]
    · have i2 : ¬ (2 : Int) < (i : Int) := by omega
      simp -implicitDefEqProofs [resultsR, K9, L9, B9, Tryd.f9, S9, z8, errV, hrest, h19, g0, f2, d2, f4, d4, cutV, sameBytes_iff, leave_go, leaveK_pure, u2, v2, u4, v4, w1, w2, w3, e5, hcl, i2, h3]
theorem step_sn_sn (m : Nat) (s : List UInt8) (hs : s.length ≤ 1048576) (at' i : Nat) (hat : at' ≤ s.length) (hi' : i ≤ 1048576) (r : Rep) (hr : RepOk r) (rest : List UInt8) (hrest : (s.drop at').take (s.length - at') = rest) (hrl : rest.length ≤ 1000000000) (text more : List UInt8) (hc : cutAt 10 rest = some (text, more)) (hne : ¬ (2 < i ∧ text = [101, 110, 100])) (htl : at' + text.length + 1 ≤ s.length) (r' : Rep) (hr' : ∀ i ∈ r'.short, i.ok) (b : Bool)
    (hcl : ∀ m, callWith X10 (evCode X10 (m + 200)) 20 [.ptr 0 0 0, .int .i64 i, .str text] (HR r) = some (.bool b, HR r'))
    (h1 : r.short ≠ []) (h2 : r.cells = []) (k1 : r'.short ≠ []) (k2 : r'.cells = []) :
    (b = false → lastK K9 (evCode X10 (m + 300) 9 0 L9 (S9 s at' i r)) = some (errV at' 3, [])) ∧
    (b = true → mapHd [16, 15, 73, 72, 71, 70, 69, 68, 67, 66, 61, 65, 64, 63, 62, 60, 59, 52, 58, 57, 56, 55, 54, 53, 51, 50, 49, 48, 47, 32, 46, 45, 44, 43, 42, 41, 40, 39, 38, 37, 36, 35, 34, 33, 31, 30, 29, 28, 25, 27, 26, 9, 8, 7, 24, 23, 22, 17, 21, 20, 19, 18] (evCode X10 (m + 300) 9 0 L9 (S9 s at' i r)) = some (.normal, S9 s (at' + text.length + 1) (i + 1) r')) := by
  have h19 := fun m => c19 (X := X10) m rest 10 hrl
  rw [hc] at h19
  obtain ⟨hi, hs', hc'⟩ := hr
  obtain ⟨f1, f2, f3⟩ := itemsV_flat r.short hi
  obtain ⟨d1, d2, d3⟩ := cellsV_flat r.cells
  have f4 : ∀ f, renL f (itemsV r.short) = itemsV r.short := fun f => renL_id f _ f2
  have d4 : ∀ f, renL f (cellsV r.cells) = cellsV r.cells := fun f => renL_id f _ d2
  have g0 : at' ≤ s.length := hat
  obtain ⟨u1, u2, u3⟩ := itemsV_flat r'.short hr'
  obtain ⟨v1, v2, v3⟩ := cellsV_flat r'.cells
  have u4 : ∀ f, renL f (itemsV r'.short) = itemsV r'.short := fun f => renL_id f _ u2
  have v4 : ∀ f, renL f (cellsV r'.cells) = cellsV r'.cells := fun f => renL_id f _ v2
  have w1 : IntKind.i64.wrap ((text.length : Int) + 1) = (text.length : Int) + 1 := wrapI64 (by omega) (by omega)
  have w2 : IntKind.i64.wrap ((at' : Int) + ((text.length : Int) + 1)) = (at' : Int) + ((text.length : Int) + 1) := wrapI64 (by omega) (by omega)
  have w3 : IntKind.i64.wrap ((i : Int) + 1) = (i : Int) + 1 := wrapI64 (by omega) (by omega)
  have e5 : (at' : Int) + (text.length : Int) + 1 = (at' : Int) + ((text.length : Int) + 1) := by omega
  rw [HR_sn h1 h2, HR_sn k1 k2] at hcl
  unfold S9
  rw [H9_sn h1 h2, H9_sn k1 k2]
  constructor
  · intro hb
    subst hb
    by_cases h3 : 2 < i
    · have i2 : (2 : Int) < (i : Int) := by omega
      have e6 : decide (text = [101, 110, 100]) = false := by simpa [h3] using hne
      simp -implicitDefEqProofs [resultsR, K9, L9, B9, Tryd.f9, S9, z8, errV, hrest, h19, g0, f2, d2, f4, d4, cutV, sameBytes_iff, leave_go, leaveK_pure, u2, v2, u4, v4, w1, w2, w3, e5, hcl, i2, h3, e6]
    · have i2 : ¬ (2 : Int) < (i : Int) := by omega
      simp -implicitDefEqProofs [resultsR, K9, L9, B9, Tryd.f9, S9, z8, errV, hrest, h19, g0, f2, d2, f4, d4, cutV, sameBytes_iff, leave_go, leaveK_pure, u2, v2, u4, v4, w1, w2, w3, e5, hcl, i2, h3]
  · intro hb
    subst hb
    by_cases h3 : 2 < i
    · have i2 : (2 : Int) < (i : Int) := by omega
      have e6 : decide (text = [101, 110, 100]) = false := by simpa [h3] using hne
      simp -implicitDefEqProofs [resultsR, K9, L9, B9, Tryd.f9, S9, z8, errV, hrest, h19, g0, f2, d2, f4, d4, cutV, sameBytes_iff, leave_go, leaveK_pure, u2, v2, u4, v4, w1, w2, w3, e5, hcl, i2, h3, e6]
    · have i2 : ¬ (2 : Int) < (i : Int) := by omega
      simp -implicitDefEqProofs [resultsR, K9, L9, B9, Tryd.f9, S9, z8, errV, hrest, h19, g0, f2, d2, f4, d4, cutV, sameBytes_iff, leave_go, leaveK_pure, u2, v2, u4, v4, w1, w2, w3, e5, hcl, i2, h3]
theorem step_sn_sc (m : Nat) (s : List UInt8) (hs : s.length ≤ 1048576) (at' i : Nat) (hat : at' ≤ s.length) (hi' : i ≤ 1048576) (r : Rep) (hr : RepOk r) (rest : List UInt8) (hrest : (s.drop at').take (s.length - at') = rest) (hrl : rest.length ≤ 1000000000) (text more : List UInt8) (hc : cutAt 10 rest = some (text, more)) (hne : ¬ (2 < i ∧ text = [101, 110, 100])) (htl : at' + text.length + 1 ≤ s.length) (r' : Rep) (hr' : ∀ i ∈ r'.short, i.ok) (b : Bool)
    (hcl : ∀ m, callWith X10 (evCode X10 (m + 200)) 20 [.ptr 0 0 0, .int .i64 i, .str text] (HR r) = some (.bool b, HR r'))
    (h1 : r.short ≠ []) (h2 : r.cells = []) (k1 : r'.short ≠ []) (k2 : r'.cells ≠ []) :
    (b = false → lastK K9 (evCode X10 (m + 300) 9 0 L9 (S9 s at' i r)) = some (errV at' 3, [])) ∧
    (b = true → mapHd [16, 15, 73, 72, 71, 70, 69, 68, 67, 66, 61, 65, 64, 63, 62, 60, 59, 52, 58, 57, 56, 55, 54, 53, 51, 50, 49, 48, 47, 32, 46, 45, 44, 43, 42, 41, 40, 39, 38, 37, 36, 35, 34, 33, 31, 30, 29, 28, 25, 27, 26, 9, 8, 7, 24, 23, 22, 17, 21, 20, 19, 18] (evCode X10 (m + 300) 9 0 L9 (S9 s at' i r)) = some (.normal, S9 s (at' + text.length + 1) (i + 1) r')) := by
  have h19 := fun m => c19 (X := X10) m rest 10 hrl
  rw [hc] at h19
  obtain ⟨hi, hs', hc'⟩ := hr
  obtain ⟨f1, f2, f3⟩ := itemsV_flat r.short hi
  obtain ⟨d1, d2, d3⟩ := cellsV_flat r.cells
  have f4 : ∀ f, renL f (itemsV r.short) = itemsV r.short := fun f => renL_id f _ f2
  have d4 : ∀ f, renL f (cellsV r.cells) = cellsV r.cells := fun f => renL_id f _ d2
  have g0 : at' ≤ s.length := hat
  obtain ⟨u1, u2, u3⟩ := itemsV_flat r'.short hr'
  obtain ⟨v1, v2, v3⟩ := cellsV_flat r'.cells
  have u4 : ∀ f, renL f (itemsV r'.short) = itemsV r'.short := fun f => renL_id f _ u2
  have v4 : ∀ f, renL f (cellsV r'.cells) = cellsV r'.cells := fun f => renL_id f _ v2
  have w1 : IntKind.i64.wrap ((text.length : Int) + 1) = (text.length : Int) + 1 := wrapI64 (by omega) (by omega)
  have w2 : IntKind.i64.wrap ((at' : Int) + ((text.length : Int) + 1)) = (at' : Int) + ((text.length : Int) + 1) := wrapI64 (by omega) (by omega)
  have w3 : IntKind.i64.wrap ((i : Int) + 1) = (i : Int) + 1 := wrapI64 (by omega) (by omega)
  have e5 : (at' : Int) + (text.length : Int) + 1 = (at' : Int) + ((text.length : Int) + 1) := by omega
  rw [HR_sn h1 h2, HR_sc k1 k2] at hcl
  unfold S9
  rw [H9_sn h1 h2, H9_sc k1 k2]
  constructor
  · intro hb
    subst hb
    by_cases h3 : 2 < i
    · have i2 : (2 : Int) < (i : Int) := by omega
      have e6 : decide (text = [101, 110, 100]) = false := by simpa [h3] using hne
      simp -implicitDefEqProofs [resultsR, K9, L9, B9, Tryd.f9, S9, z8, errV, hrest, h19, g0, f2, d2, f4, d4, cutV, sameBytes_iff, leave_go, leaveK_pure, u2, v2, u4, v4, w1, w2, w3, e5, hcl, i2, h3, e6]
    · have i2 : ¬ (2 : Int) < (i : Int) := by omega
      simp -implicitDefEqProofs [resultsR, K9, L9, B9, Tryd.f9, S9, z8, errV, hrest, h19, g0, f2, d2, f4, d4, cutV, sameBytes_iff, leave_go, leaveK_pure, u2, v2, u4, v4, w1, w2, w3, e5, hcl, i2, h3]
  · intro hb
    subst hb
    by_cases h3 : 2 < i
    · have i2 : (2 : Int) < (i : Int) := by omega
      have e6 : decide (text = [101, 110, 100]) = false := by simpa [h3] using hne
      simp -implicitDefEqProofs [resultsR, K9, L9, B9, Tryd.f9, S9, z8, errV, hrest, h19, g0, f2, d2, f4, d4, cutV, sameBytes_iff, leave_go, leaveK_pure, u2, v2, u4, v4, w1, w2, w3, e5, hcl, i2, h3, e6]
    · have i2 : ¬ (2 : Int) < (i : Int) := by omega
      simp -implicitDefEqProofs [resultsR, K9, L9, B9, Tryd.f9, S9, z8, errV, hrest, h19, g0, f2, d2, f4, d4, cutV, sameBytes_iff, leave_go, leaveK_pure, u2, v2, u4, v4, w1, w2, w3, e5, hcl, i2, h3]
theorem step_nc_nc (m : Nat) (s : List UInt8) (hs : s.length ≤ 1048576) (at' i : Nat) (hat : at' ≤ s.length) (hi' : i ≤ 1048576) (r : Rep) (hr : RepOk r) (rest : List UInt8) (hrest : (s.drop at').take (s.length - at') = rest) (hrl : rest.length ≤ 1000000000) (text more : List UInt8) (hc : cutAt 10 rest = some (text, more)) (hne : ¬ (2 < i ∧ text = [101, 110, 100])) (htl : at' + text.length + 1 ≤ s.length) (r' : Rep) (hr' : ∀ i ∈ r'.short, i.ok) (b : Bool)
    (hcl : ∀ m, callWith X10 (evCode X10 (m + 200)) 20 [.ptr 0 0 0, .int .i64 i, .str text] (HR r) = some (.bool b, HR r'))
    (h1 : r.short = []) (h2 : r.cells ≠ []) (k1 : r'.short = []) (k2 : r'.cells ≠ []) :
    (b = false → lastK K9 (evCode X10 (m + 300) 9 0 L9 (S9 s at' i r)) = some (errV at' 3, [])) ∧
    (b = true → mapHd [16, 15, 73, 72, 71, 70, 69, 68, 67, 66, 61, 65, 64, 63, 62, 60, 59, 52, 58, 57, 56, 55, 54, 53, 51, 50, 49, 48, 47, 32, 46, 45, 44, 43, 42, 41, 40, 39, 38, 37, 36, 35, 34, 33, 31, 30, 29, 28, 25, 27, 26, 9, 8, 7, 24, 23, 22, 17, 21, 20, 19, 18] (evCode X10 (m + 300) 9 0 L9 (S9 s at' i r)) = some (.normal, S9 s (at' + text.length + 1) (i + 1) r')) := by
  have h19 := fun m => c19 (X := X10) m rest 10 hrl
  rw [hc] at h19
  obtain ⟨hi, hs', hc'⟩ := hr
  obtain ⟨f1, f2, f3⟩ := itemsV_flat r.short hi
  obtain ⟨d1, d2, d3⟩ := cellsV_flat r.cells
  have f4 : ∀ f, renL f (itemsV r.short) = itemsV r.short := fun f => renL_id f _ f2
  have d4 : ∀ f, renL f (cellsV r.cells) = cellsV r.cells := fun f => renL_id f _ d2
  have g0 : at' ≤ s.length := hat
  obtain ⟨u1, u2, u3⟩ := itemsV_flat r'.short hr'
  obtain ⟨v1, v2, v3⟩ := cellsV_flat r'.cells
  have u4 : ∀ f, renL f (itemsV r'.short) = itemsV r'.short := fun f => renL_id f _ u2
  have v4 : ∀ f, renL f (cellsV r'.cells) = cellsV r'.cells := fun f => renL_id f _ v2
  have w1 : IntKind.i64.wrap ((text.length : Int) + 1) = (text.length : Int) + 1 := wrapI64 (by omega) (by omega)
  have w2 : IntKind.i64.wrap ((at' : Int) + ((text.length : Int) + 1)) = (at' : Int) + ((text.length : Int) + 1) := wrapI64 (by omega) (by omega)
  have w3 : IntKind.i64.wrap ((i : Int) + 1) = (i : Int) + 1 := wrapI64 (by omega) (by omega)
  have e5 : (at' : Int) + (text.length : Int) + 1 = (at' : Int) + ((text.length : Int) + 1) := by omega
  rw [HR_nc h1 h2, HR_nc k1 k2] at hcl
  unfold S9
  rw [H9_nc h1 h2, H9_nc k1 k2]
  constructor
  · intro hb
    subst hb
    by_cases h3 : 2 < i
    · have i2 : (2 : Int) < (i : Int) := by omega
      have e6 : decide (text = [101, 110, 100]) = false := by simpa [h3] using hne
      simp -implicitDefEqProofs [resultsR, K9, L9, B9, Tryd.f9, S9, z8, errV, hrest, h19, g0, f2, d2, f4, d4, cutV, sameBytes_iff, leave_go, leaveK_pure, u2, v2, u4, v4, w1, w2, w3, e5, hcl, i2, h3, e6]
    · have i2 : ¬ (2 : Int) < (i : Int) := by omega
      simp -implicitDefEqProofs [resultsR, K9, L9, B9, Tryd.f9, S9, z8, errV, hrest, h19, g0, f2, d2, f4, d4, cutV, sameBytes_iff, leave_go, leaveK_pure, u2, v2, u4, v4, w1, w2, w3, e5, hcl, i2, h3]
  · intro hb
    subst hb
    by_cases h3 : 2 < i
    · have i2 : (2 : Int) < (i : Int) := by omega
      have e6 : decide (text = [101, 110, 100]) = false := by simpa [h3] using hne
      simp -implicitDefEqProofs [resultsR, K9, L9, B9, Tryd.f9, S9, z8, errV, hrest, h19, g0, f2, d2, f4, d4, cutV, sameBytes_iff, leave_go, leaveK_pure, u2, v2, u4, v4, w1, w2, w3, e5, hcl, i2, h3, e6]
    · have i2 : ¬ (2 : Int) < (i : Int) := by omega
      simp -implicitDefEqProofs [resultsR, K9, L9, B9, Tryd.f9, S9, z8, errV, hrest, h19, g0, f2, d2, f4, d4, cutV, sameBytes_iff, leave_go, leaveK_pure, u2, v2, u4, v4, w1, w2, w3, e5, hcl, i2, h3]
theorem step_sc_sc (m : Nat) (s : List UInt8) (hs : s.length ≤ 1048576) (at' i : Nat) (hat : at' ≤ s.length) (hi' : i ≤ 1048576) (r : Rep) (hr : RepOk r) (rest : List UInt8) (hrest : (s.drop at').take (s.length - at') = rest) (hrl : rest.length ≤ 1000000000) (text more : List UInt8) (hc : cutAt 10 rest = some (text, more)) (hne : ¬ (2 < i ∧ text = [101, 110, 100])) (htl : at' + text.length + 1 ≤ s.length) (r' : Rep) (hr' : ∀ i ∈ r'.short, i.ok) (b : Bool)
    (hcl : ∀ m, callWith X10 (evCode X10 (m + 200)) 20 [.ptr 0 0 0, .int .i64 i, .str text] (HR r) = some (.bool b, HR r'))
    (h1 : r.short ≠ []) (h2 : r.cells ≠ []) (k1 : r'.short ≠ []) (k2 : r'.cells ≠ []) :
    (b = false → lastK K9 (evCode X10 (m + 300) 9 0 L9 (S9 s at' i r)) = some (errV at' 3, [])) ∧
    (b = true → mapHd [16, 15, 73, 72, 71, 70, 69, 68, 67, 66, 61, 65, 64, 63, 62, 60, 59, 52, 58, 57, 56, 55, 54, 53, 51, 50, 49, 48, 47, 32, 46, 45, 44, 43, 42, 41, 40, 39, 38, 37, 36, 35, 34, 33, 31, 30, 29, 28, 25, 27, 26, 9, 8, 7, 24, 23, 22, 17, 21, 20, 19, 18] (evCode X10 (m + 300) 9 0 L9 (S9 s at' i r)) = some (.normal, S9 s (at' + text.length + 1) (i + 1) r')) := by
  have h19 := fun m => c19 (X := X10) m rest 10 hrl
  rw [hc] at h19
  obtain ⟨hi, hs', hc'⟩ := hr
  obtain ⟨f1, f2, f3⟩ := itemsV_flat r.short hi
  obtain ⟨d1, d2, d3⟩ := cellsV_flat r.cells
  have f4 : ∀ f, renL f (itemsV r.short) = itemsV r.short := fun f => renL_id f _ f2
  have d4 : ∀ f, renL f (cellsV r.cells) = cellsV r.cells := fun f => renL_id f _ d2
  have g0 : at' ≤ s.length := hat
  obtain ⟨u1, u2, u3⟩ := itemsV_flat r'.short hr'
  obtain ⟨v1, v2, v3⟩ := cellsV_flat r'.cells
  have u4 : ∀ f, renL f (itemsV r'.short) = itemsV r'.short := fun f => renL_id f _ u2
  have v4 : ∀ f, renL f (cellsV r'.cells) = cellsV r'.cells := fun f => renL_id f _ v2
  have w1 : IntKind.i64.wrap ((text.length : Int) + 1) = (text.length : Int) + 1 := wrapI64 (by omega) (by omega)
  have w2 : IntKind.i64.wrap ((at' : Int) + ((text.length : Int) + 1)) = (at' : Int) + ((text.length : Int) + 1) := wrapI64 (by omega) (by omega)
  have w3 : IntKind.i64.wrap ((i : Int) + 1) = (i : Int) + 1 := wrapI64 (by omega) (by omega)
  have e5 : (at' : Int) + (text.length : Int) + 1 = (at' : Int) + ((text.length : Int) + 1) := by omega
  rw [HR_sc h1 h2, HR_sc k1 k2] at hcl
  unfold S9
  rw [H9_sc h1 h2, H9_sc k1 k2]
  constructor
  · intro hb
    subst hb
    by_cases h3 : 2 < i
    · have i2 : (2 : Int) < (i : Int) := by omega
      have e6 : decide (text = [101, 110, 100]) = false := by simpa [h3] using hne
      simp -implicitDefEqProofs [resultsR, K9, L9, B9, Tryd.f9, S9, z8, errV, hrest, h19, g0, f2, d2, f4, d4, cutV, sameBytes_iff, leave_go, leaveK_pure, u2, v2, u4, v4, w1, w2, w3, e5, hcl, i2, h3, e6]
    · have i2 : ¬ (2 : Int) < (i : Int) := by omega
      simp -implicitDefEqProofs [resultsR, K9, L9, B9, Tryd.f9, S9, z8, errV, hrest, h19, g0, f2, d2, f4, d4, cutV, sameBytes_iff, leave_go, leaveK_pure, u2, v2, u4, v4, w1, w2, w3, e5, hcl, i2, h3]
  · intro hb
    subst hb
    by_cases h3 : 2 < i
    · have i2 : (2 : Int) < (i : Int) := by omega
      have e6 : decide (text = [101, 110, 100]) = false := by simpa [h3] using hne
      simp -implicitDefEqProofs [resultsR, K9, L9, B9, Tryd.f9, S9, z8, errV, hrest, h19, g0, f2, d2, f4, d4, cutV, sameBytes_iff, leave_go, leaveK_pure, u2, v2, u4, v4, w1, w2, w3, e5, hcl, i2, h3, e6]
    · have i2 : ¬ (2 : Int) < (i : Int) := by omega
      simp -implicitDefEqProofs [resultsR, K9, L9, B9, Tryd.f9, S9, z8, errV, hrest, h19, g0, f2, d2, f4, d4, cutV, sameBytes_iff, leave_go, leaveK_pure, u2, v2, u4, v4, w1, w2, w3, e5, hcl, i2, h3]
end Go.Ev
