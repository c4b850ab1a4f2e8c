/- A part of the proof of ReportBack (the second form: what is handed in is of bulk at most 1048576): no statement of the seat's stands here. -/
import Derived.Test.YtoppmjanignfdaaDoorRn
set_option linter.unusedSectionVars false
set_option linter.unusedSimpArgs false
set_option linter.unusedVariables false
set_option linter.all false
set_option linter.unusedVariables false
set_option linter.unusedSimpArgs false
set_option linter.unusedSectionVars false
set_option maxRecDepth 100000
set_option maxHeartbeats 8000000
namespace Go.Ev
open Go Go.Proofs
attribute [local simp] run_seq run_then run_then_ret run_then_exit run_region run_regionK run_cond run_cond_true run_cond_false run_block run_block_exit run_block_ret run_block_normal evCode_exit evCode_ret evCode_skip evRegion_seq run_seqs run_seqK evSeq_zero run_step run_stepO run_stepK_true run_stepK_false run_stepR wantedV evOp evOpR opd putTm putAll ofValue ofScalar binV intOp unV und_p size_p bytesOf_p zeroV_p aggT_p size3 size5 size9 size22 size24 size25 size27 size28 size29 size31 size40 size42 size47 agg3 agg5 agg9 agg22 agg24 agg25 agg27 agg28 agg29 agg31 agg40 agg42 agg47 bytesOf3 bytesOf5 bytesOf9 bytesOf42 bytesOf47 zeroV3 zeroV5 zeroV9 zeroV24 zeroV27 zeroV31 zeroV42 zeroV47 Tryd.underlying3 Tryd.underlying5 Tryd.underlying9 Tryd.underlying22 Tryd.underlying24 Tryd.underlying27 Tryd.underlying28 Tryd.underlying29 Tryd.underlying31 Tryd.underlying40 Tryd.underlying42 Tryd.underlying47 Tryd.underlying51 Tryd.underlying61 Tryd.underlying78 wrapI64 builtinV convV len9 len_nil len_slz len_sl len_msl slT minV asI asN ce_int ce_str ce_bool ce_agg ce_msl ce_sl ce_nilsl sc_int sc_str sc_bool sc_msl sc_sl sc_nilsl sc_slz fillV splice Heap.put Heap.get appendV srcCells cellsOf rowOf zerosT isIntT isStr maxBytes indexAddrV fieldAddrV fieldOf sliceV storeAt cellsAt takeV partV nextV strOp cfst csnd mapHd_some hdS_mk canonK_some reach_nil reach_cons reachGo clearTm refsL V.refs Blk.refs renL V.ren Blk.ren indexOf subHeap resultsR leaveR_some lastK_ret lastK_exit fin_ret fin_normal leave_int leave_bool leave_str run_callV ext_p XR_x mut_p callA_tuple callB_some callC_some resolve_go resolveK_nil resolveK_cons mergeAt freezeRows freezeRow V.msls mslsL V.deep deepL V.resolve1 V.flat flatL c17 c34 c47 c71 evRegion_draw drawK_some run_cons run_traceK run_trace run_trace0 run_traceN run_traceC leave_yn canon_P canonPK_some canonPK.canonPL leaveB_mk rng1 rng2 rng3 rng4 rng5 rng6
theorem nums0 {l : List (List UInt8)} (hl : l.length ≤ 1000000000) (want : Int) (h : numsGo l [] = none) : F41 [.sl 1 l.length (strsV l), .int .i64 want] [] = some (.tuple [.nilsl, .bool false], []) := by
  rw [F41_strs l want hl, h]; rfl
theorem nums1 {l : List (List UInt8)} (hl : l.length ≤ 1000000000) (want : Int) (hw : want = 1 ∨ want = 2) (h : numsGo l [] = some []) : F41 [.sl 1 l.length (strsV l), .int .i64 want] [] = some (.tuple [.nilsl, .bool false], []) := by
  rw [F41_strs l want hl, h]
  rcases hw with rfl | rfl <;> rfl
theorem numsN {l : List (List UInt8)} (hl : l.length ≤ 1000000000) (want : Int) {x : Int} {t : List Int} (h : numsGo l [] = some (x :: t)) : F41 [.sl 1 l.length (strsV l), .int .i64 want] [] = some (.tuple [.sl 1 (t.length + 1) (.int .i64 x :: intsV t), .bool (decide ((t.length : Int) + 1 = want))], []) := by
  rw [F41_strs l want hl, h]
  simp [numsV, sliceI, intsV]
def rejR (r : Rep) (l : List (List UInt8)) : Bool × Rep := match numsGo l [] with
  | some [n] => (true, { r with k := 2, a := n })
  | _ => (false, r)
theorem c55 (m : Nat) (r : Rep) (hr : RepOk r) (l : List (List UInt8)) (hl : l.length ≤ 1000000000) : callWith X10 (evCode X10 (m + 60)) 55 [.ptr 0 0 0, .sl 1 l.length (strsV l)] (HR r) = some (.bool (rejR r l).1, HR (rejR r l).2) := by
  obtain ⟨hi, hs, hc⟩ := hr
  obtain ⟨f1, f2, f3⟩ := itemsV_flat r.short hi
  obtain ⟨d1, d2, d3⟩ := cellsV_flat r.cells
  refine top_fin (nt := 25) (res := #[.tmp 4]) rfl Tryd.func55 (by rw [Tryd.f55]) rfl rfl ?_
  unfold rejR
  cases hn : numsGo l [] with
  | none =>
    have hF := nums0 hl 1 hn
    simp only
    by_cases h1 : r.short = []
    · by_cases h2 : r.cells = []
      · rw [HR_nn h1 h2]
        simp -implicitDefEqProofs [refsL_strs, mslsL_strs, renL_strs, c41', hF, refsL_ints, renL_ints, mslsL_ints]
      · rw [HR_nc h1 h2]
        simp -implicitDefEqProofs [refsL_strs, mslsL_strs, renL_strs, d2, c41', hF, refsL_ints, renL_ints, mslsL_ints]
    · by_cases h2 : r.cells = []
      · rw [HR_sn h1 h2]
        simp -implicitDefEqProofs [refsL_strs, mslsL_strs, renL_strs, f2, c41', hF, refsL_ints, renL_ints, mslsL_ints]
      · rw [HR_sc h1 h2]
        simp -implicitDefEqProofs [refsL_strs, mslsL_strs, renL_strs, f2, d2, c41', hF, refsL_ints, renL_ints, mslsL_ints]
  | some out =>
    cases out with
    | nil =>
      have hF := nums1 hl 1 (.inl rfl) hn
      simp only
      by_cases h1 : r.short = []
      · by_cases h2 : r.cells = []
        · rw [HR_nn h1 h2]
          simp -implicitDefEqProofs [refsL_strs, mslsL_strs, renL_strs, c41', hF, refsL_ints, renL_ints, mslsL_ints]
        · rw [HR_nc h1 h2]
          simp -implicitDefEqProofs [refsL_strs, mslsL_strs, renL_strs, d2, c41', hF, refsL_ints, renL_ints, mslsL_ints]
      · by_cases h2 : r.cells = []
        · rw [HR_sn h1 h2]
          simp -implicitDefEqProofs [refsL_strs, mslsL_strs, renL_strs, f2, c41', hF, refsL_ints, renL_ints, mslsL_ints]
        · rw [HR_sc h1 h2]
          simp -implicitDefEqProofs [refsL_strs, mslsL_strs, renL_strs, f2, d2, c41', hF, refsL_ints, renL_ints, mslsL_ints]
    | cons x t =>
      have hF := numsN hl 1 hn
      cases t with
      | nil =>
        simp only [List.length_nil, Int.natCast_zero, Int.zero_add, decide_true, intsV, List.map_nil, Nat.zero_add] at hF
        simp only
        by_cases h1 : r.short = []
        · by_cases h2 : r.cells = []
          · rw [HR_nn h1 h2, HR_nn (r := { r with k := 2, a := x }) h1 h2]
            simp -implicitDefEqProofs [refsL_strs, mslsL_strs, renL_strs, c41', hF, refsL_ints, renL_ints, mslsL_ints]
          · rw [HR_nc h1 h2, HR_nc (r := { r with k := 2, a := x }) h1 h2]
            simp -implicitDefEqProofs [refsL_strs, mslsL_strs, renL_strs, d2, c41', hF, refsL_ints, renL_ints, mslsL_ints]
        · by_cases h2 : r.cells = []
          · rw [HR_sn h1 h2, HR_sn (r := { r with k := 2, a := x }) h1 h2]
            simp -implicitDefEqProofs [refsL_strs, mslsL_strs, renL_strs, f2, c41', hF, refsL_ints, renL_ints, mslsL_ints]
          · rw [HR_sc h1 h2, HR_sc (r := { r with k := 2, a := x }) h1 h2]
            simp -implicitDefEqProofs [refsL_strs, mslsL_strs, renL_strs, f2, d2, c41', hF, refsL_ints, renL_ints, mslsL_ints]
      | cons y z =>
        have hd : decide ((((y :: z).length : Nat) : Int) + 1 = 1) = false := by simp; omega
        rw [hd] at hF
        simp only
        by_cases h1 : r.short = []
        · by_cases h2 : r.cells = []
          · rw [HR_nn h1 h2]
            simp -implicitDefEqProofs [refsL_strs, mslsL_strs, renL_strs, c41', hF, refsL_ints, renL_ints, mslsL_ints]
          · rw [HR_nc h1 h2]
            simp -implicitDefEqProofs [refsL_strs, mslsL_strs, renL_strs, d2, c41', hF, refsL_ints, renL_ints, mslsL_ints]
        · by_cases h2 : r.cells = []
          · rw [HR_sn h1 h2]
            simp -implicitDefEqProofs [refsL_strs, mslsL_strs, renL_strs, f2, c41', hF, refsL_ints, renL_ints, mslsL_ints]
          · rw [HR_sc h1 h2]
            simp -implicitDefEqProofs [refsL_strs, mslsL_strs, renL_strs, f2, d2, c41', hF, refsL_ints, renL_ints, mslsL_ints]
def malR (r : Rep) (l : List (List UInt8)) : Bool × Rep := match numsGo l [] with
  | some [n, p] => (true, { r with k := 3, fa := n, fe := p })
  | _ => (false, r)
theorem c56 (m : Nat) (r : Rep) (hr : RepOk r) (l : List (List UInt8)) (hl : l.length ≤ 1000000000) : callWith X10 (evCode X10 (m + 60)) 56 [.ptr 0 0 0, .sl 1 l.length (strsV l)] (HR r) = some (.bool (malR r l).1, HR (malR r l).2) := by
  obtain ⟨hi, hs, hc⟩ := hr
  obtain ⟨f1, f2, f3⟩ := itemsV_flat r.short hi
  obtain ⟨d1, d2, d3⟩ := cellsV_flat r.cells
  refine top_fin (nt := 29) (res := #[.tmp 4]) rfl Tryd.func56 (by rw [Tryd.f56]) rfl rfl ?_
  unfold malR
  cases hn : numsGo l [] with
  | none =>
    have hF := nums0 hl 2 hn
    simp only
    by_cases h1 : r.short = []
    · by_cases h2 : r.cells = []
      · rw [HR_nn h1 h2]
        simp -implicitDefEqProofs [refsL_strs, mslsL_strs, renL_strs, c41', hF, refsL_ints, renL_ints, mslsL_ints]
      · rw [HR_nc h1 h2]
        simp -implicitDefEqProofs [refsL_strs, mslsL_strs, renL_strs, d2, c41', hF, refsL_ints, renL_ints, mslsL_ints]
    · by_cases h2 : r.cells = []
      · rw [HR_sn h1 h2]
        simp -implicitDefEqProofs [refsL_strs, mslsL_strs, renL_strs, f2, c41', hF, refsL_ints, renL_ints, mslsL_ints]
      · rw [HR_sc h1 h2]
        simp -implicitDefEqProofs [refsL_strs, mslsL_strs, renL_strs, f2, d2, c41', hF, refsL_ints, renL_ints, mslsL_ints]
  | some out =>
    cases out with
    | nil =>
      have hF := nums1 hl 2 (.inr rfl) hn
      simp only
      by_cases h1 : r.short = []
      · by_cases h2 : r.cells = []
        · rw [HR_nn h1 h2]
          simp -implicitDefEqProofs [refsL_strs, mslsL_strs, renL_strs, c41', hF, refsL_ints, renL_ints, mslsL_ints]
        · rw [HR_nc h1 h2]
          simp -implicitDefEqProofs [refsL_strs, mslsL_strs, renL_strs, d2, c41', hF, refsL_ints, renL_ints, mslsL_ints]
      · by_cases h2 : r.cells = []
        · rw [HR_sn h1 h2]
          simp -implicitDefEqProofs [refsL_strs, mslsL_strs, renL_strs, f2, c41', hF, refsL_ints, renL_ints, mslsL_ints]
        · rw [HR_sc h1 h2]
          simp -implicitDefEqProofs [refsL_strs, mslsL_strs, renL_strs, f2, d2, c41', hF, refsL_ints, renL_ints, mslsL_ints]
    | cons x t =>
      have hF := numsN hl 2 hn
      cases t with
      | nil =>
        simp only [List.length_nil, Int.natCast_zero, Int.zero_add, intsV, List.map_nil, Nat.zero_add] at hF
        have hd : decide ((1 : Int) = 2) = false := by decide
        rw [hd] at hF
        simp only
        by_cases h1 : r.short = []
        · by_cases h2 : r.cells = []
          · rw [HR_nn h1 h2]
            simp -implicitDefEqProofs [refsL_strs, mslsL_strs, renL_strs, c41', hF, refsL_ints, renL_ints, mslsL_ints]
          · rw [HR_nc h1 h2]
            simp -implicitDefEqProofs [refsL_strs, mslsL_strs, renL_strs, d2, c41', hF, refsL_ints, renL_ints, mslsL_ints]
        · by_cases h2 : r.cells = []
          · rw [HR_sn h1 h2]
            simp -implicitDefEqProofs [refsL_strs, mslsL_strs, renL_strs, f2, c41', hF, refsL_ints, renL_ints, mslsL_ints]
          · rw [HR_sc h1 h2]
            simp -implicitDefEqProofs [refsL_strs, mslsL_strs, renL_strs, f2, d2, c41', hF, refsL_ints, renL_ints, mslsL_ints]
      | cons y z =>
        cases z with
        | nil =>
          have hd : decide ((([y].length : Nat) : Int) + 1 = 2) = true := by simp
          rw [hd] at hF
          simp only [List.length_cons, List.length_nil, intsV, List.map_cons, List.map_nil, Nat.zero_add, Nat.reduceAdd] at hF
          simp only
          by_cases h1 : r.short = []
          · by_cases h2 : r.cells = []
            · rw [HR_nn h1 h2, HR_nn (r := { r with k := 3, fa := x, fe := y }) h1 h2]
              simp -implicitDefEqProofs [refsL_strs, mslsL_strs, renL_strs, c41', hF, refsL_ints, renL_ints, mslsL_ints]
              rw [if_pos]
              rotate_left
              · kernel_rfl
              · simp -implicitDefEqProofs [refsL_strs, mslsL_strs, renL_strs, c41', hF, refsL_ints, renL_ints, mslsL_ints]
            · rw [HR_nc h1 h2, HR_nc (r := { r with k := 3, fa := x, fe := y }) h1 h2]
              simp -implicitDefEqProofs [refsL_strs, mslsL_strs, renL_strs, d2, c41', hF, refsL_ints, renL_ints, mslsL_ints]
              rw [if_pos]
              rotate_left
              · kernel_rfl
              · simp -implicitDefEqProofs [refsL_strs, mslsL_strs, renL_strs, d2, c41', hF, refsL_ints, renL_ints, mslsL_ints]
          · by_cases h2 : r.cells = []
            · rw [HR_sn h1 h2, HR_sn (r := { r with k := 3, fa := x, fe := y }) h1 h2]
              simp -implicitDefEqProofs [refsL_strs, mslsL_strs, renL_strs, f2, c41', hF, refsL_ints, renL_ints, mslsL_ints]
              rw [if_pos]
              rotate_left
              · kernel_rfl
              · simp -implicitDefEqProofs [refsL_strs, mslsL_strs, renL_strs, f2, c41', hF, refsL_ints, renL_ints, mslsL_ints]
            · rw [HR_sc h1 h2, HR_sc (r := { r with k := 3, fa := x, fe := y }) h1 h2]
              simp -implicitDefEqProofs [refsL_strs, mslsL_strs, renL_strs, f2, d2, c41', hF, refsL_ints, renL_ints, mslsL_ints]
              rw [if_pos]
              rotate_left
              · kernel_rfl
              · simp -implicitDefEqProofs [refsL_strs, mslsL_strs, renL_strs, f2, d2, c41', hF, refsL_ints, renL_ints, mslsL_ints]
        | cons u v =>
          have hd : decide ((((y :: u :: v).length : Nat) : Int) + 1 = 2) = false := by simp; omega
          rw [hd] at hF
          simp only
          by_cases h1 : r.short = []
          · by_cases h2 : r.cells = []
            · rw [HR_nn h1 h2]
              simp -implicitDefEqProofs [refsL_strs, mslsL_strs, renL_strs, c41', hF, refsL_ints, renL_ints, mslsL_ints]
            · rw [HR_nc h1 h2]
              simp -implicitDefEqProofs [refsL_strs, mslsL_strs, renL_strs, d2, c41', hF, refsL_ints, renL_ints, mslsL_ints]
          · by_cases h2 : r.cells = []
            · rw [HR_sn h1 h2]
              simp -implicitDefEqProofs [refsL_strs, mslsL_strs, renL_strs, f2, c41', hF, refsL_ints, renL_ints, mslsL_ints]
            · rw [HR_sc h1 h2]
              simp -implicitDefEqProofs [refsL_strs, mslsL_strs, renL_strs, f2, d2, c41', hF, refsL_ints, renL_ints, mslsL_ints]
end Go.Ev
