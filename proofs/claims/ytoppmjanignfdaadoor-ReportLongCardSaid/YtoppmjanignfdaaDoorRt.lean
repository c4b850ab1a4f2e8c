/- A part of the proof of ReportBack (the second form: what is handed in is of bulk at most 1048576): no statement of the seat's stands here. -/
import Derived.Test.YtoppmjanignfdaaDoorRs
set_option linter.unusedSectionVars false
set_option linter.unusedSimpArgs false
set_option linter.unusedVariables false
set_option linter.all false
set_option linter.unusedVariables false
set_option linter.unusedSimpArgs false
set_option linter.unusedSectionVars false
set_option maxRecDepth 100000
set_option maxHeartbeats 8000000
namespace Go.Ev
open Go Go.Proofs
attribute [local simp] run_seq run_then run_then_ret run_then_exit run_region run_regionK run_cond run_cond_true run_cond_false run_block run_block_exit run_block_ret run_block_normal evCode_exit evCode_ret evCode_skip evRegion_seq run_seqs run_seqK evSeq_zero run_step run_stepO run_stepK_true run_stepK_false run_stepR wantedV evOp evOpR opd putTm putAll ofValue ofScalar binV intOp unV und_p size_p bytesOf_p zeroV_p aggT_p size3 size5 size9 size22 size24 size25 size27 size28 size29 size31 size40 size42 size47 agg3 agg5 agg9 agg22 agg24 agg25 agg27 agg28 agg29 agg31 agg40 agg42 agg47 bytesOf3 bytesOf5 bytesOf9 bytesOf42 bytesOf47 zeroV3 zeroV5 zeroV9 zeroV24 zeroV27 zeroV31 zeroV42 zeroV47 Tryd.underlying3 Tryd.underlying5 Tryd.underlying9 Tryd.underlying22 Tryd.underlying24 Tryd.underlying27 Tryd.underlying28 Tryd.underlying29 Tryd.underlying31 Tryd.underlying40 Tryd.underlying42 Tryd.underlying47 Tryd.underlying51 Tryd.underlying61 Tryd.underlying78 wrapI64 builtinV convV len9 len_nil len_slz len_sl len_msl slT minV asI asN ce_int ce_str ce_bool ce_agg ce_msl ce_sl ce_nilsl sc_int sc_str sc_bool sc_msl sc_sl sc_nilsl sc_slz fillV splice Heap.put Heap.get appendV srcCells cellsOf rowOf zerosT isIntT isStr maxBytes indexAddrV fieldAddrV fieldOf sliceV storeAt cellsAt takeV partV nextV strOp cfst csnd mapHd_some hdS_mk canonK_some reach_nil reach_cons reachGo clearTm refsL V.refs Blk.refs renL V.ren Blk.ren indexOf subHeap resultsR leaveR_some lastK_ret lastK_exit fin_ret fin_normal leave_int leave_bool leave_str run_callV ext_p XR_x mut_p callA_tuple callB_some callC_some resolve_go resolveK_nil resolveK_cons mergeAt freezeRows freezeRow V.msls mslsL V.deep deepL V.resolve1 V.flat flatL c17 c34 c47 c71 evRegion_draw drawK_some run_cons run_traceK run_trace run_trace0 run_traceN run_traceC leave_yn canon_P canonPK_some canonPK.canonPL leaveB_mk rng1 rng2 rng3 rng4 rng5 rng6
theorem go_nn_nn (m : Nat) (r : Rep) (hr : RepOk r) (i : Int) (s w : List UInt8) (ws : List (List UInt8)) (hws : ws.length ≤ 1000000000) (first : Bool) (g : List V) (hi0 : decide (i = 0) = false) (hi1 : decide (i = 1) = false) (two : Bool) (hi2 : decide (i = 2) = two) (hft : first = two) (f : FuncId) (fx : X10.ext f = none) (fm : X10.mutArgs f = false) (fw : findW w = .func (.func f) [] [])
    (r' : Rep) (hr' : (∀ i ∈ r'.short, i.ok) ∧ r'.short.length ≤ 2000000 ∧ r'.cells.length ≤ 2000000) (b : Bool) (hcl : ∀ m, callWith X10 (evCode X10 (m + 100)) f [.ptr 0 0 0, .sl 1 ws.length (strsV ws)] (HR r) = some (.bool b, HR r'))
    (h1 : r.short = []) (h2 : r.cells = []) (k1 : r'.short = []) (k2 : r'.cells = []) : fin X10 #[.tmp 6] 20 (HR r).length (evCode X10 (m + 197) 20 (HR r).length R20 ⟨tm20 i s w ws first g, HR r⟩) = some (.bool (b && mayB r'), HR r') := by
  obtain ⟨hi, hs, hc⟩ := hr
  obtain ⟨f1, f2, f3⟩ := itemsV_flat r.short hi
  obtain ⟨d1, d2, d3⟩ := cellsV_flat r.cells
  have f4 : ∀ f, renL f (itemsV r.short) = itemsV r.short := fun f => renL_id f _ f2
  have d4 : ∀ f, renL f (cellsV r.cells) = cellsV r.cells := fun f => renL_id f _ d2
  obtain ⟨u1, u2, u3⟩ := itemsV_flat r'.short hr'.1
  obtain ⟨v1, v2, v3⟩ := cellsV_flat r'.cells
  have u4 : ∀ f, renL f (itemsV r'.short) = itemsV r'.short := fun f => renL_id f _ u2
  have v4 : ∀ f, renL f (cellsV r'.cells) = cellsV r'.cells := fun f => renL_id f _ v2
  have tk := take_strs ws
  have hM := may_nn hr' k1 k2
  have fcall : ∀ (call : CallFn) (as' : List V) (fresh : Nat → Nat) (H : Heap), callV X10 call f as' fresh H = callA call f fresh H (resolve H 4 (.tuple as')) := by
    intro call as' fresh H
    rw [run_callV fx, fm]; rfl
  subst hft
  rw [HR_nn h1 h2, HR_nn k1 k2] at *
  cases b
  · simp -implicitDefEqProofs [R20, B20, Tryd.f20, tm20, refsL_strs, mslsL_strs, renL_strs, f2, d2, f4, d4, u2, v2, u4, v4, tk, c42, mapOf, renEs_R, refsEs_R, look82, fw, neqF, neqN, eqB, hi0, hi1, hi2, hcl, c12, mut12, hM, fcall]
    rw [if_pos]
    rotate_left
    · kernel_rfl
    · simp -implicitDefEqProofs [R20, B20, Tryd.f20, tm20, refsL_strs, mslsL_strs, renL_strs, f2, d2, f4, d4, u2, v2, u4, v4, tk, c42, mapOf, renEs_R, refsEs_R, look82, fw, neqF, neqN, eqB, hi0, hi1, hi2, hcl, c12, mut12, hM, fcall]
  · simp -implicitDefEqProofs [R20, B20, Tryd.f20, tm20, refsL_strs, mslsL_strs, renL_strs, f2, d2, f4, d4, u2, v2, u4, v4, tk, c42, mapOf, renEs_R, refsEs_R, look82, fw, neqF, neqN, eqB, hi0, hi1, hi2, hcl, c12, mut12, hM, fcall]
    rw [if_pos]
    rotate_left
    · kernel_rfl
    · simp -implicitDefEqProofs [R20, B20, Tryd.f20, tm20, refsL_strs, mslsL_strs, renL_strs, f2, d2, f4, d4, u2, v2, u4, v4, tk, c42, mapOf, renEs_R, refsEs_R, look82, fw, neqF, neqN, eqB, hi0, hi1, hi2, hcl, c12, mut12, hM, fcall]
theorem go_nn_sn (m : Nat) (r : Rep) (hr : RepOk r) (i : Int) (s w : List UInt8) (ws : List (List UInt8)) (hws : ws.length ≤ 1000000000) (first : Bool) (g : List V) (hi0 : decide (i = 0) = false) (hi1 : decide (i = 1) = false) (two : Bool) (hi2 : decide (i = 2) = two) (hft : first = two) (f : FuncId) (fx : X10.ext f = none) (fm : X10.mutArgs f = false) (fw : findW w = .func (.func f) [] [])
    (r' : Rep) (hr' : (∀ i ∈ r'.short, i.ok) ∧ r'.short.length ≤ 2000000 ∧ r'.cells.length ≤ 2000000) (b : Bool) (hcl : ∀ m, callWith X10 (evCode X10 (m + 100)) f [.ptr 0 0 0, .sl 1 ws.length (strsV ws)] (HR r) = some (.bool b, HR r'))
    (h1 : r.short = []) (h2 : r.cells = []) (k1 : r'.short ≠ []) (k2 : r'.cells = []) : fin X10 #[.tmp 6] 20 (HR r).length (evCode X10 (m + 197) 20 (HR r).length R20 ⟨tm20 i s w ws first g, HR r⟩) = some (.bool (b && mayB r'), HR r') := by
  obtain ⟨hi, hs, hc⟩ := hr
  obtain ⟨f1, f2, f3⟩ := itemsV_flat r.short hi
  obtain ⟨d1, d2, d3⟩ := cellsV_flat r.cells
  have f4 : ∀ f, renL f (itemsV r.short) = itemsV r.short := fun f => renL_id f _ f2
  have d4 : ∀ f, renL f (cellsV r.cells) = cellsV r.cells := fun f => renL_id f _ d2
  obtain ⟨u1, u2, u3⟩ := itemsV_flat r'.short hr'.1
  obtain ⟨v1, v2, v3⟩ := cellsV_flat r'.cells
  have u4 : ∀ f, renL f (itemsV r'.short) = itemsV r'.short := fun f => renL_id f _ u2
  have v4 : ∀ f, renL f (cellsV r'.cells) = cellsV r'.cells := fun f => renL_id f _ v2
  have tk := take_strs ws
  have hM := may_sn hr' k1 k2
  have fcall : ∀ (call : CallFn) (as' : List V) (fresh : Nat → Nat) (H : Heap), callV X10 call f as' fresh H = callA call f fresh H (resolve H 4 (.tuple as')) := by
    intro call as' fresh H
    rw [run_callV fx, fm]; rfl
  subst hft
  rw [HR_nn h1 h2, HR_sn k1 k2] at *
  cases b
  · simp -implicitDefEqProofs [R20, B20, Tryd.f20, tm20, refsL_strs, mslsL_strs, renL_strs, f2, d2, f4, d4, u2, v2, u4, v4, tk, c42, mapOf, renEs_R, refsEs_R, look82, fw, neqF, neqN, eqB, hi0, hi1, hi2, hcl, c12, mut12, hM, fcall]
    rw [if_pos]
    rotate_left
    · kernel_rfl
    · simp -implicitDefEqProofs [R20, B20, Tryd.f20, tm20, refsL_strs, mslsL_strs, renL_strs, f2, d2, f4, d4, u2, v2, u4, v4, tk, c42, mapOf, renEs_R, refsEs_R, look82, fw, neqF, neqN, eqB, hi0, hi1, hi2, hcl, c12, mut12, hM, fcall]
  · simp -implicitDefEqProofs [R20, B20, Tryd.f20, tm20, refsL_strs, mslsL_strs, renL_strs, f2, d2, f4, d4, u2, v2, u4, v4, tk, c42, mapOf, renEs_R, refsEs_R, look82, fw, neqF, neqN, eqB, hi0, hi1, hi2, hcl, c12, mut12, hM, fcall]
    rw [if_pos]
    rotate_left
    · kernel_rfl
    · simp -implicitDefEqProofs [R20, B20, Tryd.f20, tm20, refsL_strs, mslsL_strs, renL_strs, f2, d2, f4, d4, u2, v2, u4, v4, tk, c42, mapOf, renEs_R, refsEs_R, look82, fw, neqF, neqN, eqB, hi0, hi1, hi2, hcl, c12, mut12, hM, fcall]
theorem go_nn_nc (m : Nat) (r : Rep) (hr : RepOk r) (i : Int) (s w : List UInt8) (ws : List (List UInt8)) (hws : ws.length ≤ 1000000000) (first : Bool) (g : List V) (hi0 : decide (i = 0) = false) (hi1 : decide (i = 1) = false) (two : Bool) (hi2 : decide (i = 2) = two) (hft : first = two) (f : FuncId) (fx : X10.ext f = none) (fm : X10.mutArgs f = false) (fw : findW w = .func (.func f) [] [])
    (r' : Rep) (hr' : (∀ i ∈ r'.short, i.ok) ∧ r'.short.length ≤ 2000000 ∧ r'.cells.length ≤ 2000000) (b : Bool) (hcl : ∀ m, callWith X10 (evCode X10 (m + 100)) f [.ptr 0 0 0, .sl 1 ws.length (strsV ws)] (HR r) = some (.bool b, HR r'))
    (h1 : r.short = []) (h2 : r.cells = []) (k1 : r'.short = []) (k2 : r'.cells ≠ []) : fin X10 #[.tmp 6] 20 (HR r).length (evCode X10 (m + 197) 20 (HR r).length R20 ⟨tm20 i s w ws first g, HR r⟩) = some (.bool (b && mayB r'), HR r') := by
  obtain ⟨hi, hs, hc⟩ := hr
  obtain ⟨f1, f2, f3⟩ := itemsV_flat r.short hi
  obtain ⟨d1, d2, d3⟩ := cellsV_flat r.cells
  have f4 : ∀ f, renL f (itemsV r.short) = itemsV r.short := fun f => renL_id f _ f2
  have d4 : ∀ f, renL f (cellsV r.cells) = cellsV r.cells := fun f => renL_id f _ d2
  obtain ⟨u1, u2, u3⟩ := itemsV_flat r'.short hr'.1
  obtain ⟨v1, v2, v3⟩ := cellsV_flat r'.cells
  have u4 : ∀ f, renL f (itemsV r'.short) = itemsV r'.short := fun f => renL_id f _ u2
  have v4 : ∀ f, renL f (cellsV r'.cells) = cellsV r'.cells := fun f => renL_id f _ v2
  have tk := take_strs ws
  have hM := may_nc hr' k1 k2
  have fcall : ∀ (call : CallFn) (as' : List V) (fresh : Nat → Nat) (H : Heap), callV X10 call f as' fresh H = callA call f fresh H (resolve H 4 (.tuple as')) := by
    intro call as' fresh H
    rw [run_callV fx, fm]; rfl
  subst hft
  rw [HR_nn h1 h2, HR_nc k1 k2] at *
  cases b
  · simp -implicitDefEqProofs [R20, B20, Tryd.f20, tm20, refsL_strs, mslsL_strs, renL_strs, f2, d2, f4, d4, u2, v2, u4, v4, tk, c42, mapOf, renEs_R, refsEs_R, look82, fw, neqF, neqN, eqB, hi0, hi1, hi2, hcl, c12, mut12, hM, fcall]
    rw [if_pos]
    rotate_left
    · kernel_rfl
    · simp -implicitDefEqProofs [R20, B20, Tryd.f20, tm20, refsL_strs, mslsL_strs, renL_strs, f2, d2, f4, d4, u2, v2, u4, v4, tk, c42, mapOf, renEs_R, refsEs_R, look82, fw, neqF, neqN, eqB, hi0, hi1, hi2, hcl, c12, mut12, hM, fcall]
  · simp -implicitDefEqProofs [R20, B20, Tryd.f20, tm20, refsL_strs, mslsL_strs, renL_strs, f2, d2, f4, d4, u2, v2, u4, v4, tk, c42, mapOf, renEs_R, refsEs_R, look82, fw, neqF, neqN, eqB, hi0, hi1, hi2, hcl, c12, mut12, hM, fcall]
    rw [if_pos]
    rotate_left
    · kernel_rfl
    · simp -implicitDefEqProofs [R20, B20, Tryd.f20, tm20, refsL_strs, mslsL_strs, renL_strs, f2, d2, f4, d4, u2, v2, u4, v4, tk, c42, mapOf, renEs_R, refsEs_R, look82, fw, neqF, neqN, eqB, hi0, hi1, hi2, hcl, c12, mut12, hM, fcall]
theorem go_sn_sn (m : Nat) (r : Rep) (hr : RepOk r) (i : Int) (s w : List UInt8) (ws : List (List UInt8)) (hws : ws.length ≤ 1000000000) (first : Bool) (g : List V) (hi0 : decide (i = 0) = false) (hi1 : decide (i = 1) = false) (two : Bool) (hi2 : decide (i = 2) = two) (hft : first = two) (f : FuncId) (fx : X10.ext f = none) (fm : X10.mutArgs f = false) (fw : findW w = .func (.func f) [] [])
    (r' : Rep) (hr' : (∀ i ∈ r'.short, i.ok) ∧ r'.short.length ≤ 2000000 ∧ r'.cells.length ≤ 2000000) (b : Bool) (hcl : ∀ m, callWith X10 (evCode X10 (m + 100)) f [.ptr 0 0 0, .sl 1 ws.length (strsV ws)] (HR r) = some (.bool b, HR r'))
    (h1 : r.short ≠ []) (h2 : r.cells = []) (k1 : r'.short ≠ []) (k2 : r'.cells = []) : fin X10 #[.tmp 6] 20 (HR r).length (evCode X10 (m + 197) 20 (HR r).length R20 ⟨tm20 i s w ws first g, HR r⟩) = some (.bool (b && mayB r'), HR r') := by
  obtain ⟨hi, hs, hc⟩ := hr
  obtain ⟨f1, f2, f3⟩ := itemsV_flat r.short hi
  obtain ⟨d1, d2, d3⟩ := cellsV_flat r.cells
  have f4 : ∀ f, renL f (itemsV r.short) = itemsV r.short := fun f => renL_id f _ f2
  have d4 : ∀ f, renL f (cellsV r.cells) = cellsV r.cells := fun f => renL_id f _ d2
  obtain ⟨u1, u2, u3⟩ := itemsV_flat r'.short hr'.1
  obtain ⟨v1, v2, v3⟩ := cellsV_flat r'.cells
  have u4 : ∀ f, renL f (itemsV r'.short) = itemsV r'.short := fun f => renL_id f _ u2
  have v4 : ∀ f, renL f (cellsV r'.cells) = cellsV r'.cells := fun f => renL_id f _ v2
  have tk := take_strs ws
  have hM := may_sn hr' k1 k2
  have fcall : ∀ (call : CallFn) (as' : List V) (fresh : Nat → Nat) (H : Heap), callV X10 call f as' fresh H = callA call f fresh H (resolve H 4 (.tuple as')) := by
    intro call as' fresh H
    rw [run_callV fx, fm]; rfl
  subst hft
  rw [HR_sn h1 h2, HR_sn k1 k2] at *
  cases b
  · simp -implicitDefEqProofs [R20, B20, Tryd.f20, tm20, refsL_strs, mslsL_strs, renL_strs, f2, d2, f4, d4, u2, v2, u4, v4, tk, c42, mapOf, renEs_R, refsEs_R, look82, fw, neqF, neqN, eqB, hi0, hi1, hi2, hcl, c12, mut12, hM, fcall]
    rw [if_pos]
    rotate_left
    · kernel_rfl
    · simp -implicitDefEqProofs [R20, B20, Tryd.f20, tm20, refsL_strs, mslsL_strs, renL_strs, f2, d2, f4, d4, u2, v2, u4, v4, tk, c42, mapOf, renEs_R, refsEs_R, look82, fw, neqF, neqN, eqB, hi0, hi1, hi2, hcl, c12, mut12, hM, fcall]
  · simp -implicitDefEqProofs [R20, B20, Tryd.f20, tm20, refsL_strs, mslsL_strs, renL_strs, f2, d2, f4, d4, u2, v2, u4, v4, tk, c42, mapOf, renEs_R, refsEs_R, look82, fw, neqF, neqN, eqB, hi0, hi1, hi2, hcl, c12, mut12, hM, fcall]
    rw [if_pos]
    rotate_left
    · kernel_rfl
    · simp -implicitDefEqProofs [R20, B20, Tryd.f20, tm20, refsL_strs, mslsL_strs, renL_strs, f2, d2, f4, d4, u2, v2, u4, v4, tk, c42, mapOf, renEs_R, refsEs_R, look82, fw, neqF, neqN, eqB, hi0, hi1, hi2, hcl, c12, mut12, hM, fcall]
theorem go_sn_sc (m : Nat) (r : Rep) (hr : RepOk r) (i : Int) (s w : List UInt8) (ws : List (List UInt8)) (hws : ws.length ≤ 1000000000) (first : Bool) (g : List V) (hi0 : decide (i = 0) = false) (hi1 : decide (i = 1) = false) (two : Bool) (hi2 : decide (i = 2) = two) (hft : first = two) (f : FuncId) (fx : X10.ext f = none) (fm : X10.mutArgs f = false) (fw : findW w = .func (.func f) [] [])
    (r' : Rep) (hr' : (∀ i ∈ r'.short, i.ok) ∧ r'.short.length ≤ 2000000 ∧ r'.cells.length ≤ 2000000) (b : Bool) (hcl : ∀ m, callWith X10 (evCode X10 (m + 100)) f [.ptr 0 0 0, .sl 1 ws.length (strsV ws)] (HR r) = some (.bool b, HR r'))
    (h1 : r.short ≠ []) (h2 : r.cells = []) (k1 : r'.short ≠ []) (k2 : r'.cells ≠ []) : fin X10 #[.tmp 6] 20 (HR r).length (evCode X10 (m + 197) 20 (HR r).length R20 ⟨tm20 i s w ws first g, HR r⟩) = some (.bool (b && mayB r'), HR r') := by
  obtain ⟨hi, hs, hc⟩ := hr
  obtain ⟨f1, f2, f3⟩ := itemsV_flat r.short hi
  obtain ⟨d1, d2, d3⟩ := cellsV_flat r.cells
  have f4 : ∀ f, renL f (itemsV r.short) = itemsV r.short := fun f => renL_id f _ f2
  have d4 : ∀ f, renL f (cellsV r.cells) = cellsV r.cells := fun f => renL_id f _ d2
  obtain ⟨u1, u2, u3⟩ := itemsV_flat r'.short hr'.1
  obtain ⟨v1, v2, v3⟩ := cellsV_flat r'.cells
  have u4 : ∀ f, renL f (itemsV r'.short) = itemsV r'.short := fun f => renL_id f _ u2
  have v4 : ∀ f, renL f (cellsV r'.cells) = cellsV r'.cells := fun f => renL_id f _ v2
  have tk := take_strs ws
  have hM := may_sc hr' k1 k2
  have fcall : ∀ (call : CallFn) (as' : List V) (fresh : Nat → Nat) (H : Heap), callV X10 call f as' fresh H = callA call f fresh H (resolve H 4 (.tuple as')) := by
    intro call as' fresh H
    rw [run_callV fx, fm]; rfl
  subst hft
  rw [HR_sn h1 h2, HR_sc k1 k2] at *
  cases b
  · simp -implicitDefEqProofs [R20, B20, Tryd.f20, tm20, refsL_strs, mslsL_strs, renL_strs, f2, d2, f4, d4, u2, v2, u4, v4, tk, c42, mapOf, renEs_R, refsEs_R, look82, fw, neqF, neqN, eqB, hi0, hi1, hi2, hcl, c12, mut12, hM, fcall]
    rw [if_pos]
    rotate_left
    · kernel_rfl
    · simp -implicitDefEqProofs [R20, B20, Tryd.f20, tm20, refsL_strs, mslsL_strs, renL_strs, f2, d2, f4, d4, u2, v2, u4, v4, tk, c42, mapOf, renEs_R, refsEs_R, look82, fw, neqF, neqN, eqB, hi0, hi1, hi2, hcl, c12, mut12, hM, fcall]
  · simp -implicitDefEqProofs [R20, B20, Tryd.f20, tm20, refsL_strs, mslsL_strs, renL_strs, f2, d2, f4, d4, u2, v2, u4, v4, tk, c42, mapOf, renEs_R, refsEs_R, look82, fw, neqF, neqN, eqB, hi0, hi1, hi2, hcl, c12, mut12, hM, fcall]
    rw [if_pos]
    rotate_left
    · kernel_rfl
    · simp -implicitDefEqProofs [R20, B20, Tryd.f20, tm20, refsL_strs, mslsL_strs, renL_strs, f2, d2, f4, d4, u2, v2, u4, v4, tk, c42, mapOf, renEs_R, refsEs_R, look82, fw, neqF, neqN, eqB, hi0, hi1, hi2, hcl, c12, mut12, hM, fcall]
theorem go_nc_nc (m : Nat) (r : Rep) (hr : RepOk r) (i : Int) (s w : List UInt8) (ws : List (List UInt8)) (hws : ws.length ≤ 1000000000) (first : Bool) (g : List V) (hi0 : decide (i = 0) = false) (hi1 : decide (i = 1) = false) (two : Bool) (hi2 : decide (i = 2) = two) (hft : first = two) (f : FuncId) (fx : X10.ext f = none) (fm : X10.mutArgs f = false) (fw : findW w = .func (.func f) [] [])
    (r' : Rep) (hr' : (∀ i ∈ r'.short, i.ok) ∧ r'.short.length ≤ 2000000 ∧ r'.cells.length ≤ 2000000) (b : Bool) (hcl : ∀ m, callWith X10 (evCode X10 (m + 100)) f [.ptr 0 0 0, .sl 1 ws.length (strsV ws)] (HR r) = some (.bool b, HR r'))
    (h1 : r.short = []) (h2 : r.cells ≠ []) (k1 : r'.short = []) (k2 : r'.cells ≠ []) : fin X10 #[.tmp 6] 20 (HR r).length (evCode X10 (m + 197) 20 (HR r).length R20 ⟨tm20 i s w ws first g, HR r⟩) = some (.bool (b && mayB r'), HR r') := by
  obtain ⟨hi, hs, hc⟩ := hr
  obtain ⟨f1, f2, f3⟩ := itemsV_flat r.short hi
  obtain ⟨d1, d2, d3⟩ := cellsV_flat r.cells
  have f4 : ∀ f, renL f (itemsV r.short) = itemsV r.short := fun f => renL_id f _ f2
  have d4 : ∀ f, renL f (cellsV r.cells) = cellsV r.cells := fun f => renL_id f _ d2
  obtain ⟨u1, u2, u3⟩ := itemsV_flat r'.short hr'.1
  obtain ⟨v1, v2, v3⟩ := cellsV_flat r'.cells
  have u4 : ∀ f, renL f (itemsV r'.short) = itemsV r'.short := fun f => renL_id f _ u2
  have v4 : ∀ f, renL f (cellsV r'.cells) = cellsV r'.cells := fun f => renL_id f _ v2
  have tk := take_strs ws
  have hM := may_nc hr' k1 k2
  have fcall : ∀ (call : CallFn) (as' : List V) (fresh : Nat → Nat) (H : Heap), callV X10 call f as' fresh H = callA call f fresh H (resolve H 4 (.tuple as')) := by
    intro call as' fresh H
    rw [run_callV fx, fm]; rfl
  subst hft
  rw [HR_nc h1 h2, HR_nc k1 k2] at *
  cases b
  · simp -implicitDefEqProofs [R20, B20, Tryd.f20, tm20, refsL_strs, mslsL_strs, renL_strs, f2, d2, f4, d4, u2, v2, u4, v4, tk, c42, mapOf, renEs_R, refsEs_R, look82, fw, neqF, neqN, eqB, hi0, hi1, hi2, hcl, c12, mut12, hM, fcall]
    rw [if_pos]
    rotate_left
    · kernel_rfl
    · simp -implicitDefEqProofs [R20, B20, Tryd.f20, tm20, refsL_strs, mslsL_strs, renL_strs, f2, d2, f4, d4, u2, v2, u4, v4, tk, c42, mapOf, renEs_R, refsEs_R, look82, fw, neqF, neqN, eqB, hi0, hi1, hi2, hcl, c12, mut12, hM, fcall]
  · simp -implicitDefEqProofs [R20, B20, Tryd.f20, tm20, refsL_strs, mslsL_strs, renL_strs, f2, d2, f4, d4, u2, v2, u4, v4, tk, c42, mapOf, renEs_R, refsEs_R, look82, fw, neqF, neqN, eqB, hi0, hi1, hi2, hcl, c12, mut12, hM, fcall]
    rw [if_pos]
    rotate_left
    · kernel_rfl
    · simp -implicitDefEqProofs [R20, B20, Tryd.f20, tm20, refsL_strs, mslsL_strs, renL_strs, f2, d2, f4, d4, u2, v2, u4, v4, tk, c42, mapOf, renEs_R, refsEs_R, look82, fw, neqF, neqN, eqB, hi0, hi1, hi2, hcl, c12, mut12, hM, fcall]
theorem go_sc_sc (m : Nat) (r : Rep) (hr : RepOk r) (i : Int) (s w : List UInt8) (ws : List (List UInt8)) (hws : ws.length ≤ 1000000000) (first : Bool) (g : List V) (hi0 : decide (i = 0) = false) (hi1 : decide (i = 1) = false) (two : Bool) (hi2 : decide (i = 2) = two) (hft : first = two) (f : FuncId) (fx : X10.ext f = none) (fm : X10.mutArgs f = false) (fw : findW w = .func (.func f) [] [])
    (r' : Rep) (hr' : (∀ i ∈ r'.short, i.ok) ∧ r'.short.length ≤ 2000000 ∧ r'.cells.length ≤ 2000000) (b : Bool) (hcl : ∀ m, callWith X10 (evCode X10 (m + 100)) f [.ptr 0 0 0, .sl 1 ws.length (strsV ws)] (HR r) = some (.bool b, HR r'))
    (h1 : r.short ≠ []) (h2 : r.cells ≠ []) (k1 : r'.short ≠ []) (k2 : r'.cells ≠ []) : fin X10 #[.tmp 6] 20 (HR r).length (evCode X10 (m + 197) 20 (HR r).length R20 ⟨tm20 i s w ws first g, HR r⟩) = some (.bool (b && mayB r'), HR r') := by
  obtain ⟨hi, hs, hc⟩ := hr
  obtain ⟨f1, f2, f3⟩ := itemsV_flat r.short hi
  obtain ⟨d1, d2, d3⟩ := cellsV_flat r.cells
  have f4 : ∀ f, renL f (itemsV r.short) = itemsV r.short := fun f => renL_id f _ f2
  have d4 : ∀ f, renL f (cellsV r.cells) = cellsV r.cells := fun f => renL_id f _ d2
  obtain ⟨u1, u2, u3⟩ := itemsV_flat r'.short hr'.1
  obtain ⟨v1, v2, v3⟩ := cellsV_flat r'.cells
  have u4 : ∀ f, renL f (itemsV r'.short) = itemsV r'.short := fun f => renL_id f _ u2
  have v4 : ∀ f, renL f (cellsV r'.cells) = cellsV r'.cells := fun f => renL_id f _ v2
  have tk := take_strs ws
  have hM := may_sc hr' k1 k2
  have fcall : ∀ (call : CallFn) (as' : List V) (fresh : Nat → Nat) (H : Heap), callV X10 call f as' fresh H = callA call f fresh H (resolve H 4 (.tuple as')) := by
    intro call as' fresh H
    rw [run_callV fx, fm]; rfl
  subst hft
  rw [HR_sc h1 h2, HR_sc k1 k2] at *
  cases b
  · simp -implicitDefEqProofs [R20, B20, Tryd.f20, tm20, refsL_strs, mslsL_strs, renL_strs, f2, d2, f4, d4, u2, v2, u4, v4, tk, c42, mapOf, renEs_R, refsEs_R, look82, fw, neqF, neqN, eqB, hi0, hi1, hi2, hcl, c12, mut12, hM, fcall]
    rw [if_pos]
    rotate_left
    · kernel_rfl
    · simp -implicitDefEqProofs [R20, B20, Tryd.f20, tm20, refsL_strs, mslsL_strs, renL_strs, f2, d2, f4, d4, u2, v2, u4, v4, tk, c42, mapOf, renEs_R, refsEs_R, look82, fw, neqF, neqN, eqB, hi0, hi1, hi2, hcl, c12, mut12, hM, fcall]
  · simp -implicitDefEqProofs [R20, B20, Tryd.f20, tm20, refsL_strs, mslsL_strs, renL_strs, f2, d2, f4, d4, u2, v2, u4, v4, tk, c42, mapOf, renEs_R, refsEs_R, look82, fw, neqF, neqN, eqB, hi0, hi1, hi2, hcl, c12, mut12, hM, fcall]
    rw [if_pos]
    rotate_left
    · kernel_rfl
    · simp -implicitDefEqProofs [R20, B20, Tryd.f20, tm20, refsL_strs, mslsL_strs, renL_strs, f2, d2, f4, d4, u2, v2, u4, v4, tk, c42, mapOf, renEs_R, refsEs_R, look82, fw, neqF, neqN, eqB, hi0, hi1, hi2, hcl, c12, mut12, hM, fcall]
end Go.Ev
