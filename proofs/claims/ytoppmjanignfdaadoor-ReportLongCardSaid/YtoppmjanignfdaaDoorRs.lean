/- A part of the proof of ReportBack (the second form: what is handed in is of bulk at most 1048576): no statement of the seat's stands here. -/
import Derived.Test.YtoppmjanignfdaaDoorRr
set_option linter.unusedSectionVars false
set_option linter.unusedSimpArgs false
set_option linter.unusedVariables false
set_option linter.all false
set_option linter.unusedVariables false
set_option linter.unusedSimpArgs false
set_option linter.unusedSectionVars false
set_option maxRecDepth 100000
set_option maxHeartbeats 8000000
namespace Go.Ev
open Go Go.Proofs
attribute [local simp] run_seq run_then run_then_ret run_then_exit run_region run_regionK run_cond run_cond_true run_cond_false run_block run_block_exit run_block_ret run_block_normal evCode_exit evCode_ret evCode_skip evRegion_seq run_seqs run_seqK evSeq_zero run_step run_stepO run_stepK_true run_stepK_false run_stepR wantedV evOp evOpR opd putTm putAll ofValue ofScalar binV intOp unV und_p size_p bytesOf_p zeroV_p aggT_p size3 size5 size9 size22 size24 size25 size27 size28 size29 size31 size40 size42 size47 agg3 agg5 agg9 agg22 agg24 agg25 agg27 agg28 agg29 agg31 agg40 agg42 agg47 bytesOf3 bytesOf5 bytesOf9 bytesOf42 bytesOf47 zeroV3 zeroV5 zeroV9 zeroV24 zeroV27 zeroV31 zeroV42 zeroV47 Tryd.underlying3 Tryd.underlying5 Tryd.underlying9 Tryd.underlying22 Tryd.underlying24 Tryd.underlying27 Tryd.underlying28 Tryd.underlying29 Tryd.underlying31 Tryd.underlying40 Tryd.underlying42 Tryd.underlying47 Tryd.underlying51 Tryd.underlying61 Tryd.underlying78 wrapI64 builtinV convV len9 len_nil len_slz len_sl len_msl slT minV asI asN ce_int ce_str ce_bool ce_agg ce_msl ce_sl ce_nilsl sc_int sc_str sc_bool sc_msl sc_sl sc_nilsl sc_slz fillV splice Heap.put Heap.get appendV srcCells cellsOf rowOf zerosT isIntT isStr maxBytes indexAddrV fieldAddrV fieldOf sliceV storeAt cellsAt takeV partV nextV strOp cfst csnd mapHd_some hdS_mk canonK_some reach_nil reach_cons reachGo clearTm refsL V.refs Blk.refs renL V.ren Blk.ren indexOf subHeap resultsR leaveR_some lastK_ret lastK_exit fin_ret fin_normal leave_int leave_bool leave_str run_callV ext_p XR_x mut_p callA_tuple callB_some callC_some resolve_go resolveK_nil resolveK_cons mergeAt freezeRows freezeRow V.msls mslsL V.deep deepL V.resolve1 V.flat flatL c17 c34 c47 c71 evRegion_draw drawK_some run_cons run_traceK run_trace run_trace0 run_traceN run_traceC leave_yn canon_P canonPK_some canonPK.canonPL leaveB_mk rng1 rng2 rng3 rng4 rng5 rng6
theorem rest0 (m : Nat) (r : Rep) (hr : RepOk r) (i : Int) (s w : List UInt8) (ws : List (List UInt8)) (hws : ws.length ≤ 1000000000) (first : Bool) (g : List V) (hi0 : decide (i = 0) = true) : fin X10 #[.tmp 6] 20 (HR r).length (evCode X10 (m + 197) 20 (HR r).length R20 ⟨tm20 i s w ws first g, HR r⟩) = some (.bool (decide (s = bUmp)), HR r) := by
  obtain ⟨hi, hs, hc⟩ := hr
  obtain ⟨f1, f2, f3⟩ := itemsV_flat r.short hi
  obtain ⟨d1, d2, d3⟩ := cellsV_flat r.cells
  have f4 : ∀ f, renL f (itemsV r.short) = itemsV r.short := fun f => renL_id f _ f2
  have d4 : ∀ f, renL f (cellsV r.cells) = cellsV r.cells := fun f => renL_id f _ d2
  unfold bUmp
  by_cases h1 : r.short = []
  · by_cases h2 : r.cells = []
    · rw [HR_nn h1 h2]
      simp -implicitDefEqProofs [R20, B20, Tryd.f20, tm20, refsL_strs, sameBytes_iff, f2, d2, hi0]
    · rw [HR_nc h1 h2]
      simp -implicitDefEqProofs [R20, B20, Tryd.f20, tm20, refsL_strs, sameBytes_iff, f2, d2, hi0]
  · by_cases h2 : r.cells = []
    · rw [HR_sn h1 h2]
      simp -implicitDefEqProofs [R20, B20, Tryd.f20, tm20, refsL_strs, sameBytes_iff, f2, d2, hi0]
    · rw [HR_sc h1 h2]
      simp -implicitDefEqProofs [R20, B20, Tryd.f20, tm20, refsL_strs, sameBytes_iff, f2, d2, hi0]
theorem rest1 (m : Nat) (r : Rep) (hr : RepOk r) (i : Int) (s w : List UInt8) (ws : List (List UInt8)) (hws : ws.length ≤ 1000000000) (first : Bool) (g : List V) (hi0 : decide (i = 0) = false) (hi1 : decide (i = 1) = true) : fin X10 #[.tmp 6] 20 (HR r).length (evCode X10 (m + 197) 20 (HR r).length R20 ⟨tm20 i s w ws first g, HR r⟩) = some (.bool (itemsR r w ws).1, HR (itemsR r w ws).2) := by
  obtain ⟨hi, hs, hc⟩ := hr
  obtain ⟨f1, f2, f3⟩ := itemsV_flat r.short hi
  obtain ⟨d1, d2, d3⟩ := cellsV_flat r.cells
  have f4 : ∀ f, renL f (itemsV r.short) = itemsV r.short := fun f => renL_id f _ f2
  have d4 : ∀ f, renL f (cellsV r.cells) = cellsV r.cells := fun f => renL_id f _ d2
  have tk := take_strs ws
  unfold itemsR
  cases hn : numsGo ws [] with
  | none =>
    have hF := nums0 hws 1 hn
    simp only
    by_cases h1 : r.short = []
    · by_cases h2 : r.cells = []
      · rw [HR_nn h1 h2]
        simp -implicitDefEqProofs [R20, B20, Tryd.f20, tm20, refsL_strs, mslsL_strs, renL_strs, refsL_ints, renL_ints, mslsL_ints, sameBytes_iff, c41', hF, tk, f2, d2, hi0, hi1]
      · rw [HR_nc h1 h2]
        simp -implicitDefEqProofs [R20, B20, Tryd.f20, tm20, refsL_strs, mslsL_strs, renL_strs, refsL_ints, renL_ints, mslsL_ints, sameBytes_iff, c41', hF, tk, f2, d2, hi0, hi1]
    · by_cases h2 : r.cells = []
      · rw [HR_sn h1 h2]
        simp -implicitDefEqProofs [R20, B20, Tryd.f20, tm20, refsL_strs, mslsL_strs, renL_strs, refsL_ints, renL_ints, mslsL_ints, sameBytes_iff, c41', hF, tk, f2, d2, hi0, hi1]
      · rw [HR_sc h1 h2]
        simp -implicitDefEqProofs [R20, B20, Tryd.f20, tm20, refsL_strs, mslsL_strs, renL_strs, refsL_ints, renL_ints, mslsL_ints, sameBytes_iff, c41', hF, tk, f2, d2, hi0, hi1]
  | some out =>
    cases out with
    | nil =>
      have hF := nums1 hws 1 (.inl rfl) hn
      simp only
      by_cases h1 : r.short = []
      · by_cases h2 : r.cells = []
        · rw [HR_nn h1 h2]
          simp -implicitDefEqProofs [R20, B20, Tryd.f20, tm20, refsL_strs, mslsL_strs, renL_strs, refsL_ints, renL_ints, mslsL_ints, sameBytes_iff, c41', hF, tk, f2, d2, hi0, hi1]
        · rw [HR_nc h1 h2]
          simp -implicitDefEqProofs [R20, B20, Tryd.f20, tm20, refsL_strs, mslsL_strs, renL_strs, refsL_ints, renL_ints, mslsL_ints, sameBytes_iff, c41', hF, tk, f2, d2, hi0, hi1]
      · by_cases h2 : r.cells = []
        · rw [HR_sn h1 h2]
          simp -implicitDefEqProofs [R20, B20, Tryd.f20, tm20, refsL_strs, mslsL_strs, renL_strs, refsL_ints, renL_ints, mslsL_ints, sameBytes_iff, c41', hF, tk, f2, d2, hi0, hi1]
        · rw [HR_sc h1 h2]
          simp -implicitDefEqProofs [R20, B20, Tryd.f20, tm20, refsL_strs, mslsL_strs, renL_strs, refsL_ints, renL_ints, mslsL_ints, sameBytes_iff, c41', hF, tk, f2, d2, hi0, hi1]
    | cons x t =>
      have hF := numsN hws 1 hn
      cases t with
      | nil =>
        simp only [List.length_nil, Int.natCast_zero, Int.zero_add, decide_true, intsV, List.map_nil, Nat.zero_add] at hF
        simp only
        unfold bItemsW
        cases hw : decide (w = [105, 116, 101, 109, 115])
        · have hw' : ¬ w = [105, 116, 101, 109, 115] := by simpa using hw
          rw [if_neg hw']
          by_cases h1 : r.short = []
          · by_cases h2 : r.cells = []
            · rw [HR_nn h1 h2]
              simp -implicitDefEqProofs [R20, B20, Tryd.f20, tm20, refsL_strs, mslsL_strs, renL_strs, refsL_ints, renL_ints, mslsL_ints, sameBytes_iff, c41', hF, tk, f2, d2, hi0, hi1, hw]
            · rw [HR_nc h1 h2]
              simp -implicitDefEqProofs [R20, B20, Tryd.f20, tm20, refsL_strs, mslsL_strs, renL_strs, refsL_ints, renL_ints, mslsL_ints, sameBytes_iff, c41', hF, tk, f2, d2, hi0, hi1, hw]
          · by_cases h2 : r.cells = []
            · rw [HR_sn h1 h2]
              simp -implicitDefEqProofs [R20, B20, Tryd.f20, tm20, refsL_strs, mslsL_strs, renL_strs, refsL_ints, renL_ints, mslsL_ints, sameBytes_iff, c41', hF, tk, f2, d2, hi0, hi1, hw]
            · rw [HR_sc h1 h2]
              simp -implicitDefEqProofs [R20, B20, Tryd.f20, tm20, refsL_strs, mslsL_strs, renL_strs, refsL_ints, renL_ints, mslsL_ints, sameBytes_iff, c41', hF, tk, f2, d2, hi0, hi1, hw]
        · have hw' : w = [105, 116, 101, 109, 115] := by simpa using hw
          rw [if_pos hw']
          by_cases h1 : r.short = []
          · by_cases h2 : r.cells = []
            · rw [HR_nn h1 h2, HR_nn (r := { r with items := x }) h1 h2]
              simp -implicitDefEqProofs [R20, B20, Tryd.f20, tm20, refsL_strs, mslsL_strs, renL_strs, refsL_ints, renL_ints, mslsL_ints, sameBytes_iff, c41', hF, tk, f2, d2, hi0, hi1, hw]
            · rw [HR_nc h1 h2, HR_nc (r := { r with items := x }) h1 h2]
              simp -implicitDefEqProofs [R20, B20, Tryd.f20, tm20, refsL_strs, mslsL_strs, renL_strs, refsL_ints, renL_ints, mslsL_ints, sameBytes_iff, c41', hF, tk, f2, d2, hi0, hi1, hw]
          · by_cases h2 : r.cells = []
            · rw [HR_sn h1 h2, HR_sn (r := { r with items := x }) h1 h2]
              simp -implicitDefEqProofs [R20, B20, Tryd.f20, tm20, refsL_strs, mslsL_strs, renL_strs, refsL_ints, renL_ints, mslsL_ints, sameBytes_iff, c41', hF, tk, f2, d2, hi0, hi1, hw]
            · rw [HR_sc h1 h2, HR_sc (r := { r with items := x }) h1 h2]
              simp -implicitDefEqProofs [R20, B20, Tryd.f20, tm20, refsL_strs, mslsL_strs, renL_strs, refsL_ints, renL_ints, mslsL_ints, sameBytes_iff, c41', hF, tk, f2, d2, hi0, hi1, hw]
      | cons y z =>
        have hd : decide ((((y :: z).length : Nat) : Int) + 1 = 1) = false := by simp; omega
        rw [hd] at hF
        simp only
        by_cases h1 : r.short = []
        · by_cases h2 : r.cells = []
          · rw [HR_nn h1 h2]
            simp -implicitDefEqProofs [R20, B20, Tryd.f20, tm20, refsL_strs, mslsL_strs, renL_strs, refsL_ints, renL_ints, mslsL_ints, sameBytes_iff, c41', hF, tk, f2, d2, hi0, hi1]
          · rw [HR_nc h1 h2]
            simp -implicitDefEqProofs [R20, B20, Tryd.f20, tm20, refsL_strs, mslsL_strs, renL_strs, refsL_ints, renL_ints, mslsL_ints, sameBytes_iff, c41', hF, tk, f2, d2, hi0, hi1]
        · by_cases h2 : r.cells = []
          · rw [HR_sn h1 h2]
            simp -implicitDefEqProofs [R20, B20, Tryd.f20, tm20, refsL_strs, mslsL_strs, renL_strs, refsL_ints, renL_ints, mslsL_ints, sameBytes_iff, c41', hF, tk, f2, d2, hi0, hi1]
          · rw [HR_sc h1 h2]
            simp -implicitDefEqProofs [R20, B20, Tryd.f20, tm20, refsL_strs, mslsL_strs, renL_strs, refsL_ints, renL_ints, mslsL_ints, sameBytes_iff, c41', hF, tk, f2, d2, hi0, hi1]
theorem restN (m : Nat) (r : Rep) (hr : RepOk r) (i : Int) (s w : List UInt8) (ws : List (List UInt8)) (hws : ws.length ≤ 1000000000) (first : Bool) (g : List V) (hi0 : decide (i = 0) = false) (hi1 : decide (i = 1) = false) (fw : findW w = .nilfunc) : fin X10 #[.tmp 6] 20 (HR r).length (evCode X10 (m + 197) 20 (HR r).length R20 ⟨tm20 i s w ws first g, HR r⟩) = some (.bool false, HR r) := by
  obtain ⟨hi, hs, hc⟩ := hr
  obtain ⟨f1, f2, f3⟩ := itemsV_flat r.short hi
  obtain ⟨d1, d2, d3⟩ := cellsV_flat r.cells
  have f4 : ∀ f, renL f (itemsV r.short) = itemsV r.short := fun f => renL_id f _ f2
  have d4 : ∀ f, renL f (cellsV r.cells) = cellsV r.cells := fun f => renL_id f _ d2
  have hi2 : True := trivial
  by_cases h1 : r.short = []
  · by_cases h2 : r.cells = []
    · rw [HR_nn h1 h2]
      simp -implicitDefEqProofs [R20, B20, Tryd.f20, tm20, refsL_strs, mslsL_strs, renL_strs, f2, d2, f4, d4, c42, mapOf, renEs_R, refsEs_R, look82, fw, neqF, neqN, eqB, hi0, hi1, hi2]
      rw [if_pos]
      rotate_left
      · kernel_rfl
      · simp -implicitDefEqProofs [R20, B20, Tryd.f20, tm20, refsL_strs, mslsL_strs, renL_strs, f2, d2, f4, d4, c42, mapOf, renEs_R, refsEs_R, look82, fw, neqF, neqN, eqB, hi0, hi1, hi2]
    · rw [HR_nc h1 h2]
      simp -implicitDefEqProofs [R20, B20, Tryd.f20, tm20, refsL_strs, mslsL_strs, renL_strs, f2, d2, f4, d4, c42, mapOf, renEs_R, refsEs_R, look82, fw, neqF, neqN, eqB, hi0, hi1, hi2]
      rw [if_pos]
      rotate_left
      · kernel_rfl
      · simp -implicitDefEqProofs [R20, B20, Tryd.f20, tm20, refsL_strs, mslsL_strs, renL_strs, f2, d2, f4, d4, c42, mapOf, renEs_R, refsEs_R, look82, fw, neqF, neqN, eqB, hi0, hi1, hi2]
  · by_cases h2 : r.cells = []
    · rw [HR_sn h1 h2]
      simp -implicitDefEqProofs [R20, B20, Tryd.f20, tm20, refsL_strs, mslsL_strs, renL_strs, f2, d2, f4, d4, c42, mapOf, renEs_R, refsEs_R, look82, fw, neqF, neqN, eqB, hi0, hi1, hi2]
      rw [if_pos]
      rotate_left
      · kernel_rfl
      · simp -implicitDefEqProofs [R20, B20, Tryd.f20, tm20, refsL_strs, mslsL_strs, renL_strs, f2, d2, f4, d4, c42, mapOf, renEs_R, refsEs_R, look82, fw, neqF, neqN, eqB, hi0, hi1, hi2]
    · rw [HR_sc h1 h2]
      simp -implicitDefEqProofs [R20, B20, Tryd.f20, tm20, refsL_strs, mslsL_strs, renL_strs, f2, d2, f4, d4, c42, mapOf, renEs_R, refsEs_R, look82, fw, neqF, neqN, eqB, hi0, hi1, hi2]
      rw [if_pos]
      rotate_left
      · kernel_rfl
      · simp -implicitDefEqProofs [R20, B20, Tryd.f20, tm20, refsL_strs, mslsL_strs, renL_strs, f2, d2, f4, d4, c42, mapOf, renEs_R, refsEs_R, look82, fw, neqF, neqN, eqB, hi0, hi1, hi2]
theorem restW (m : Nat) (r : Rep) (hr : RepOk r) (i : Int) (s w : List UInt8) (ws : List (List UInt8)) (hws : ws.length ≤ 1000000000) (first : Bool) (g : List V) (hi0 : decide (i = 0) = false) (hi1 : decide (i = 1) = false) (two : Bool) (hi2 : decide (i = 2) = two) (hft : (first == two) = false) (f : FuncId) (fw : findW w = .func (.func f) [] []) : fin X10 #[.tmp 6] 20 (HR r).length (evCode X10 (m + 197) 20 (HR r).length R20 ⟨tm20 i s w ws first g, HR r⟩) = some (.bool false, HR r) := by
  obtain ⟨hi, hs, hc⟩ := hr
  obtain ⟨f1, f2, f3⟩ := itemsV_flat r.short hi
  obtain ⟨d1, d2, d3⟩ := cellsV_flat r.cells
  have f4 : ∀ f, renL f (itemsV r.short) = itemsV r.short := fun f => renL_id f _ f2
  have d4 : ∀ f, renL f (cellsV r.cells) = cellsV r.cells := fun f => renL_id f _ d2
  cases first <;> cases two <;> simp at hft
  · by_cases h1 : r.short = []
    · by_cases h2 : r.cells = []
      · rw [HR_nn h1 h2]
        simp -implicitDefEqProofs [R20, B20, Tryd.f20, tm20, refsL_strs, mslsL_strs, renL_strs, f2, d2, f4, d4, c42, mapOf, renEs_R, refsEs_R, look82, fw, neqF, neqN, eqB, hi0, hi1, hi2]
        rw [if_pos]
        rotate_left
        · kernel_rfl
        · simp -implicitDefEqProofs [R20, B20, Tryd.f20, tm20, refsL_strs, mslsL_strs, renL_strs, f2, d2, f4, d4, c42, mapOf, renEs_R, refsEs_R, look82, fw, neqF, neqN, eqB, hi0, hi1, hi2]
      · rw [HR_nc h1 h2]
        simp -implicitDefEqProofs [R20, B20, Tryd.f20, tm20, refsL_strs, mslsL_strs, renL_strs, f2, d2, f4, d4, c42, mapOf, renEs_R, refsEs_R, look82, fw, neqF, neqN, eqB, hi0, hi1, hi2]
        rw [if_pos]
        rotate_left
        · kernel_rfl
        · simp -implicitDefEqProofs [R20, B20, Tryd.f20, tm20, refsL_strs, mslsL_strs, renL_strs, f2, d2, f4, d4, c42, mapOf, renEs_R, refsEs_R, look82, fw, neqF, neqN, eqB, hi0, hi1, hi2]
    · by_cases h2 : r.cells = []
      · rw [HR_sn h1 h2]
        simp -implicitDefEqProofs [R20, B20, Tryd.f20, tm20, refsL_strs, mslsL_strs, renL_strs, f2, d2, f4, d4, c42, mapOf, renEs_R, refsEs_R, look82, fw, neqF, neqN, eqB, hi0, hi1, hi2]
        rw [if_pos]
        rotate_left
        · kernel_rfl
        · simp -implicitDefEqProofs [R20, B20, Tryd.f20, tm20, refsL_strs, mslsL_strs, renL_strs, f2, d2, f4, d4, c42, mapOf, renEs_R, refsEs_R, look82, fw, neqF, neqN, eqB, hi0, hi1, hi2]
      · rw [HR_sc h1 h2]
        simp -implicitDefEqProofs [R20, B20, Tryd.f20, tm20, refsL_strs, mslsL_strs, renL_strs, f2, d2, f4, d4, c42, mapOf, renEs_R, refsEs_R, look82, fw, neqF, neqN, eqB, hi0, hi1, hi2]
        rw [if_pos]
        rotate_left
        · kernel_rfl
        · simp -implicitDefEqProofs [R20, B20, Tryd.f20, tm20, refsL_strs, mslsL_strs, renL_strs, f2, d2, f4, d4, c42, mapOf, renEs_R, refsEs_R, look82, fw, neqF, neqN, eqB, hi0, hi1, hi2]
  · by_cases h1 : r.short = []
    · by_cases h2 : r.cells = []
      · rw [HR_nn h1 h2]
        simp -implicitDefEqProofs [R20, B20, Tryd.f20, tm20, refsL_strs, mslsL_strs, renL_strs, f2, d2, f4, d4, c42, mapOf, renEs_R, refsEs_R, look82, fw, neqF, neqN, eqB, hi0, hi1, hi2]
        rw [if_pos]
        rotate_left
        · kernel_rfl
        · simp -implicitDefEqProofs [R20, B20, Tryd.f20, tm20, refsL_strs, mslsL_strs, renL_strs, f2, d2, f4, d4, c42, mapOf, renEs_R, refsEs_R, look82, fw, neqF, neqN, eqB, hi0, hi1, hi2]
      · rw [HR_nc h1 h2]
        simp -implicitDefEqProofs [R20, B20, Tryd.f20, tm20, refsL_strs, mslsL_strs, renL_strs, f2, d2, f4, d4, c42, mapOf, renEs_R, refsEs_R, look82, fw, neqF, neqN, eqB, hi0, hi1, hi2]
        rw [if_pos]
        rotate_left
        · kernel_rfl
        · simp -implicitDefEqProofs [R20, B20, Tryd.f20, tm20, refsL_strs, mslsL_strs, renL_strs, f2, d2, f4, d4, c42, mapOf, renEs_R, refsEs_R, look82, fw, neqF, neqN, eqB, hi0, hi1, hi2]
    · by_cases h2 : r.cells = []
      · rw [HR_sn h1 h2]
        simp -implicitDefEqProofs [R20, B20, Tryd.f20, tm20, refsL_strs, mslsL_strs, renL_strs, f2, d2, f4, d4, c42, mapOf, renEs_R, refsEs_R, look82, fw, neqF, neqN, eqB, hi0, hi1, hi2]
        rw [if_pos]
        rotate_left
        · kernel_rfl
        · simp -implicitDefEqProofs [R20, B20, Tryd.f20, tm20, refsL_strs, mslsL_strs, renL_strs, f2, d2, f4, d4, c42, mapOf, renEs_R, refsEs_R, look82, fw, neqF, neqN, eqB, hi0, hi1, hi2]
      · rw [HR_sc h1 h2]
        simp -implicitDefEqProofs [R20, B20, Tryd.f20, tm20, refsL_strs, mslsL_strs, renL_strs, f2, d2, f4, d4, c42, mapOf, renEs_R, refsEs_R, look82, fw, neqF, neqN, eqB, hi0, hi1, hi2]
        rw [if_pos]
        rotate_left
        · kernel_rfl
        · simp -implicitDefEqProofs [R20, B20, Tryd.f20, tm20, refsL_strs, mslsL_strs, renL_strs, f2, d2, f4, d4, c42, mapOf, renEs_R, refsEs_R, look82, fw, neqF, neqN, eqB, hi0, hi1, hi2]
end Go.Ev
