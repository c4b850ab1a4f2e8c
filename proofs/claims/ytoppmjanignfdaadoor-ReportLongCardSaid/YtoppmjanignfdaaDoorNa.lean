/- A part of the proof of ReportLong: no statement of the seat's stands here. -/
import Derived.Test.YtoppmjanignfdaaDoorMb
set_option linter.unusedSectionVars false
set_option linter.unusedSimpArgs false
set_option linter.unusedVariables false
set_option linter.all false
set_option linter.unusedVariables false
set_option linter.unusedSimpArgs false
set_option linter.unusedSectionVars false
set_option maxRecDepth 100000
set_option maxHeartbeats 8000000
namespace Go.Ev
open Go Go.Proofs
attribute [local simp] run_seq run_then run_then_ret run_then_exit run_region run_regionK run_cond run_cond_true run_cond_false run_block run_block_exit run_block_ret run_block_normal evCode_exit evCode_ret evCode_skip evRegion_seq run_seqs run_seqK evSeq_zero run_step run_stepO run_stepK_true run_stepK_false run_stepR wantedV evOp evOpR opd putTm putAll ofValue ofScalar binV intOp unV und_p size_p bytesOf_p zeroV_p aggT_p size3 size5 size9 size22 size24 size25 size27 size28 size29 size31 size40 size42 size47 agg3 agg5 agg9 agg22 agg24 agg25 agg27 agg28 agg29 agg31 agg40 agg42 agg47 bytesOf3 bytesOf5 bytesOf9 bytesOf42 bytesOf47 zeroV3 zeroV5 zeroV9 zeroV24 zeroV27 zeroV31 zeroV42 zeroV47 Tryd.underlying3 Tryd.underlying5 Tryd.underlying9 Tryd.underlying22 Tryd.underlying24 Tryd.underlying27 Tryd.underlying28 Tryd.underlying29 Tryd.underlying31 Tryd.underlying40 Tryd.underlying42 Tryd.underlying47 Tryd.underlying51 Tryd.underlying61 Tryd.underlying78 wrapI64 builtinV convV len9 len_nil len_slz len_sl len_msl slT minV asI asN ce_int ce_str ce_bool ce_agg ce_msl ce_sl ce_nilsl sc_int sc_str sc_bool sc_msl sc_sl sc_nilsl sc_slz fillV splice Heap.put Heap.get appendV srcCells cellsOf rowOf zerosT isIntT isStr maxBytes indexAddrV fieldAddrV fieldOf sliceV storeAt cellsAt takeV partV nextV strOp cfst csnd mapHd_some hdS_mk canonK_some reach_nil reach_cons reachGo clearTm refsL V.refs Blk.refs renL V.ren Blk.ren indexOf subHeap resultsR leaveR_some lastK_ret lastK_exit fin_ret fin_normal leave_int leave_bool leave_str run_callV ext_p XR_x mut_p callA_tuple callB_some callC_some resolve_go resolveK_nil resolveK_cons mergeAt freezeRows freezeRow V.msls mslsL V.deep deepL V.resolve1 V.flat flatL c17 c34 c47 c71 evRegion_draw drawK_some run_cons run_traceK run_trace run_trace0 run_traceN run_traceC
def zrow (n : Nat) : List V := List.replicate n (V.int .u8 0)
theorem zrow_eq (n : Nat) : List.replicate n (V.int .u8 0) = zrow n := rfl
theorem zrow_bytes (n : Nat) : zrow n = bytesI (List.replicate n 0) := by simp [zrow, bytesI]
theorem zrow_refs (n : Nat) : refsL (zrow n) = [] := by rw [zrow_bytes]; exact refsL_bytes _
theorem zrow_msls (n : Nat) : mslsL (zrow n) = [] := by rw [zrow_bytes]; exact mslsL_bytes _
theorem zrow_ren (f : Nat → Option Nat) (n : Nat) : renL f (zrow n) = zrow n := renL_id f _ (zrow_refs n)
theorem zrow_len (n : Nat) : (zrow n).length = n := by simp [zrow]
theorem zrow_take (n : Nat) : (zrow n).take n = zrow n := List.take_of_length_le (by rw [zrow_len]; exact Nat.le_refl n)
theorem zrow_scalar (n : Nat) : (∃ x, x ∈ zrow n ∧ x.scalar = false) = False := by
  simp only [eq_iff_iff, iff_false]
  rintro ⟨x, hx, hs⟩
  rw [(List.mem_replicate.1 hx).2] at hs
  cases hs
noncomputable def B4 : Code := Tryd.f4.body.getD .skip
noncomputable def L4 : Code := cfst (cfst (csnd (cfst (csnd (csnd (csnd (csnd B4)))))))
noncomputable def R4 : Code := csnd (csnd (csnd (csnd (csnd B4))))
theorem shape4 : Tryd.f4.body = some (.seq (cfst B4) (.seq (cfst (csnd B4)) (.seq (cfst (csnd (csnd B4))) (.seq (cfst (csnd (csnd (csnd B4)))) (.seq (.seq (cfst (cfst (csnd (csnd (csnd (csnd B4)))))) (.block 0 (.loop L4))) R4))))) := by kernel_rfl
theorem clears4 : clears (X16.keepSlots 4) L4 = [20, 19, 39, 38, 37, 36, 35, 34, 33, 32, 31, 30, 29, 28, 27, 26, 25, 24, 23, 22, 21, 6, 18, 17] := by kernel_rfl
def S4 (n : Int) (a : Nat) : Nat → St
  | 0 => ⟨[.int .u8 n, .dead, .bool false, .ptr 0 0 0, .int .i64 30, .int .i64 0, .dead, .dead, .dead, .dead, .dead, .dead, .dead, .bool true, .bool false, .agg [.int .i64 2, .int .i64 0, .int .i64 0, .int .i64 0, .nilsl], .agg [.int .i64 2, .int .i64 0, .int .i64 0, .int .i64 0, .nilsl, .int .i64 1, .nilsl, .nilsl], .dead, .dead, .dead, .dead, .dead, .dead, .dead, .dead, .dead, .dead, .dead, .dead, .dead, .dead, .dead, .dead, .dead, .dead, .dead, .dead, .dead, .dead, .dead, .dead, .dead, .dead, .dead, .dead, .dead, .dead, .dead, .dead, .dead, .dead, .dead, .dead, .dead, .dead, .dead, .dead, .dead, .dead, .dead, .dead, .dead, .dead, .dead, .dead, .dead, .dead, .dead, .dead, .dead, .dead, .dead, .dead, .dead, .dead, .dead, .dead, .dead, .dead, .dead, .dead, .dead, .dead, .dead, .dead, .dead, .dead, .dead, .dead, .dead, .dead, .dead, .dead, .dead, .dead, .dead, .dead, .dead, .dead, .dead, .dead], [some (.row [.int .i64 2, .int .i64 0, .int .i64 0, .int .i64 0, .nilsl, .int .i64 1, .nilsl, .nilsl] true 0)]⟩
  | 1 => ⟨[.int .u8 n, .dead, .bool false, .ptr 0 0 0, .int .i64 (2 * (a : Int) + 44), .int .i64 1, .dead, .dead, .dead, .dead, .dead, .dead, .dead, .bool true, .bool false, .agg [.int .i64 2, .int .i64 0, .int .i64 0, .int .i64 0, .nilsl], .agg [.int .i64 2, .int .i64 0, .int .i64 0, .int .i64 0, .nilsl, .int .i64 1, .nilsl, .nilsl], .dead, .dead, .dead, .dead, .dead, .dead, .dead, .dead, .dead, .dead, .dead, .dead, .dead, .dead, .dead, .dead, .dead, .dead, .dead, .dead, .dead, .dead, .dead, .dead, .dead, .dead, .dead, .dead, .dead, .dead, .dead, .dead, .dead, .dead, .dead, .dead, .dead, .dead, .dead, .dead, .dead, .dead, .dead, .dead, .dead, .dead, .dead, .dead, .dead, .dead, .dead, .dead, .dead, .dead, .dead, .dead, .dead, .dead, .dead, .dead, .dead, .dead, .dead, .dead, .dead, .dead, .dead, .dead, .dead, .dead, .dead, .dead, .dead, .dead, .dead, .dead, .dead, .dead, .dead, .dead, .dead, .dead, .dead, .dead], [some (.row [.int .i64 2, .int .i64 0, .int .i64 0, .int .i64 0, .nilsl, .int .i64 1, .msl 1 0 0 3 1, .nilsl] true 0), some (.row [.int .i64 1, .int .i64 49185, .msl 2 0 0 1 a] true 0), some (.row (zrow a) true 0)]⟩
  | 2 => ⟨[.int .u8 n, .dead, .bool false, .ptr 0 0 0, .int .i64 (2 * (a : Int) + 131120), .int .i64 2, .dead, .dead, .dead, .dead, .dead, .dead, .dead, .bool true, .bool false, .agg [.int .i64 2, .int .i64 0, .int .i64 0, .int .i64 0, .nilsl], .agg [.int .i64 2, .int .i64 0, .int .i64 0, .int .i64 0, .nilsl, .int .i64 1, .nilsl, .nilsl], .dead, .dead, .dead, .dead, .dead, .dead, .dead, .dead, .dead, .dead, .dead, .dead, .dead, .dead, .dead, .dead, .dead, .dead, .dead, .dead, .dead, .dead, .dead, .dead, .dead, .dead, .dead, .dead, .dead, .dead, .dead, .dead, .dead, .dead, .dead, .dead, .dead, .dead, .dead, .dead, .dead, .dead, .dead, .dead, .dead, .dead, .dead, .dead, .dead, .dead, .dead, .dead, .dead, .dead, .dead, .dead, .dead, .dead, .dead, .dead, .dead, .dead, .dead, .dead, .dead, .dead, .dead, .dead, .dead, .dead, .dead, .dead, .dead, .dead, .dead, .dead, .dead, .dead, .dead, .dead, .dead, .dead, .dead, .dead], [some (.row [.int .i64 2, .int .i64 0, .int .i64 0, .int .i64 0, .nilsl, .int .i64 1, .msl 1 1 0 3 2, .nilsl] true 0), some (.row [.int .i64 1, .int .i64 49185, .msl 2 0 0 1 a, .int .i64 1, .int .i64 49185, .msl 3 0 0 1 65531] true 1), some (.row (zrow a) true 0), some (.row (zrow 65531) true 0)]⟩
  | 3 => ⟨[.int .u8 n, .dead, .bool false, .ptr 0 0 0, .int .i64 (2 * (a : Int) + 262196), .int .i64 3, .dead, .dead, .dead, .dead, .dead, .dead, .dead, .bool true, .bool false, .agg [.int .i64 2, .int .i64 0, .int .i64 0, .int .i64 0, .nilsl], .agg [.int .i64 2, .int .i64 0, .int .i64 0, .int .i64 0, .nilsl, .int .i64 1, .nilsl, .nilsl], .dead, .dead, .dead, .dead, .dead, .dead, .dead, .dead, .dead, .dead, .dead, .dead, .dead, .dead, .dead, .dead, .dead, .dead, .dead, .dead, .dead, .dead, .dead, .dead, .dead, .dead, .dead, .dead, .dead, .dead, .dead, .dead, .dead, .dead, .dead, .dead, .dead, .dead, .dead, .dead, .dead, .dead, .dead, .dead, .dead, .dead, .dead, .dead, .dead, .dead, .dead, .dead, .dead, .dead, .dead, .dead, .dead, .dead, .dead, .dead, .dead, .dead, .dead, .dead, .dead, .dead, .dead, .dead, .dead, .dead, .dead, .dead, .dead, .dead, .dead, .dead, .dead, .dead, .dead, .dead, .dead, .dead, .dead, .dead], [some (.row [.int .i64 2, .int .i64 0, .int .i64 0, .int .i64 0, .nilsl, .int .i64 1, .msl 1 2 0 3 3, .nilsl] true 0), some (.row [.int .i64 1, .int .i64 49185, .msl 2 0 0 1 a, .int .i64 1, .int .i64 49185, .msl 3 0 0 1 65531, .int .i64 1, .int .i64 49185, .msl 4 0 0 1 65531] true 2), some (.row (zrow a) true 0), some (.row (zrow 65531) true 0), some (.row (zrow 65531) true 0)]⟩
  | 4 => ⟨[.int .u8 n, .dead, .bool false, .ptr 0 0 0, .int .i64 (2 * (a : Int) + 393272), .int .i64 4, .dead, .dead, .dead, .dead, .dead, .dead, .dead, .bool true, .bool false, .agg [.int .i64 2, .int .i64 0, .int .i64 0, .int .i64 0, .nilsl], .agg [.int .i64 2, .int .i64 0, .int .i64 0, .int .i64 0, .nilsl, .int .i64 1, .nilsl, .nilsl], .dead, .dead, .dead, .dead, .dead, .dead, .dead, .dead, .dead, .dead, .dead, .dead, .dead, .dead, .dead, .dead, .dead, .dead, .dead, .dead, .dead, .dead, .dead, .dead, .dead, .dead, .dead, .dead, .dead, .dead, .dead, .dead, .dead, .dead, .dead, .dead, .dead, .dead, .dead, .dead, .dead, .dead, .dead, .dead, .dead, .dead, .dead, .dead, .dead, .dead, .dead, .dead, .dead, .dead, .dead, .dead, .dead, .dead, .dead, .dead, .dead, .dead, .dead, .dead, .dead, .dead, .dead, .dead, .dead, .dead, .dead, .dead, .dead, .dead, .dead, .dead, .dead, .dead, .dead, .dead, .dead, .dead, .dead, .dead], [some (.row [.int .i64 2, .int .i64 0, .int .i64 0, .int .i64 0, .nilsl, .int .i64 1, .msl 1 3 0 3 4, .nilsl] true 0), some (.row [.int .i64 1, .int .i64 49185, .msl 2 0 0 1 a, .int .i64 1, .int .i64 49185, .msl 3 0 0 1 65531, .int .i64 1, .int .i64 49185, .msl 4 0 0 1 65531, .int .i64 1, .int .i64 49185, .msl 5 0 0 1 65531] true 3), some (.row (zrow a) true 0), some (.row (zrow 65531) true 0), some (.row (zrow 65531) true 0), some (.row (zrow 65531) true 0)]⟩
  | 5 => ⟨[.int .u8 n, .dead, .bool false, .ptr 0 0 0, .int .i64 (2 * (a : Int) + 524348), .int .i64 5, .dead, .dead, .dead, .dead, .dead, .dead, .dead, .bool true, .bool false, .agg [.int .i64 2, .int .i64 0, .int .i64 0, .int .i64 0, .nilsl], .agg [.int .i64 2, .int .i64 0, .int .i64 0, .int .i64 0, .nilsl, .int .i64 1, .nilsl, .nilsl], .dead, .dead, .dead, .dead, .dead, .dead, .dead, .dead, .dead, .dead, .dead, .dead, .dead, .dead, .dead, .dead, .dead, .dead, .dead, .dead, .dead, .dead, .dead, .dead, .dead, .dead, .dead, .dead, .dead, .dead, .dead, .dead, .dead, .dead, .dead, .dead, .dead, .dead, .dead, .dead, .dead, .dead, .dead, .dead, .dead, .dead, .dead, .dead, .dead, .dead, .dead, .dead, .dead, .dead, .dead, .dead, .dead, .dead, .dead, .dead, .dead, .dead, .dead, .dead, .dead, .dead, .dead, .dead, .dead, .dead, .dead, .dead, .dead, .dead, .dead, .dead, .dead, .dead, .dead, .dead, .dead, .dead, .dead, .dead], [some (.row [.int .i64 2, .int .i64 0, .int .i64 0, .int .i64 0, .nilsl, .int .i64 1, .msl 1 4 0 3 5, .nilsl] true 0), some (.row [.int .i64 1, .int .i64 49185, .msl 2 0 0 1 a, .int .i64 1, .int .i64 49185, .msl 3 0 0 1 65531, .int .i64 1, .int .i64 49185, .msl 4 0 0 1 65531, .int .i64 1, .int .i64 49185, .msl 5 0 0 1 65531, .int .i64 1, .int .i64 49185, .msl 6 0 0 1 65531] true 4), some (.row (zrow a) true 0), some (.row (zrow 65531) true 0), some (.row (zrow 65531) true 0), some (.row (zrow 65531) true 0), some (.row (zrow 65531) true 0)]⟩
  | 6 => ⟨[.int .u8 n, .dead, .bool false, .ptr 0 0 0, .int .i64 (2 * (a : Int) + 655424), .int .i64 6, .dead, .dead, .dead, .dead, .dead, .dead, .dead, .bool true, .bool false, .agg [.int .i64 2, .int .i64 0, .int .i64 0, .int .i64 0, .nilsl], .agg [.int .i64 2, .int .i64 0, .int .i64 0, .int .i64 0, .nilsl, .int .i64 1, .nilsl, .nilsl], .dead, .dead, .dead, .dead, .dead, .dead, .dead, .dead, .dead, .dead, .dead, .dead, .dead, .dead, .dead, .dead, .dead, .dead, .dead, .dead, .dead, .dead, .dead, .dead, .dead, .dead, .dead, .dead, .dead, .dead, .dead, .dead, .dead, .dead, .dead, .dead, .dead, .dead, .dead, .dead, .dead, .dead, .dead, .dead, .dead, .dead, .dead, .dead, .dead, .dead, .dead, .dead, .dead, .dead, .dead, .dead, .dead, .dead, .dead, .dead, .dead, .dead, .dead, .dead, .dead, .dead, .dead, .dead, .dead, .dead, .dead, .dead, .dead, .dead, .dead, .dead, .dead, .dead, .dead, .dead, .dead, .dead, .dead, .dead], [some (.row [.int .i64 2, .int .i64 0, .int .i64 0, .int .i64 0, .nilsl, .int .i64 1, .msl 1 5 0 3 6, .nilsl] true 0), some (.row [.int .i64 1, .int .i64 49185, .msl 2 0 0 1 a, .int .i64 1, .int .i64 49185, .msl 3 0 0 1 65531, .int .i64 1, .int .i64 49185, .msl 4 0 0 1 65531, .int .i64 1, .int .i64 49185, .msl 5 0 0 1 65531, .int .i64 1, .int .i64 49185, .msl 6 0 0 1 65531, .int .i64 1, .int .i64 49185, .msl 7 0 0 1 65531] true 5), some (.row (zrow a) true 0), some (.row (zrow 65531) true 0), some (.row (zrow 65531) true 0), some (.row (zrow 65531) true 0), some (.row (zrow 65531) true 0), some (.row (zrow 65531) true 0)]⟩
  | 7 => ⟨[.int .u8 n, .dead, .bool false, .ptr 0 0 0, .int .i64 (2 * (a : Int) + 786500), .int .i64 7, .dead, .dead, .dead, .dead, .dead, .dead, .dead, .bool true, .bool false, .agg [.int .i64 2, .int .i64 0, .int .i64 0, .int .i64 0, .nilsl], .agg [.int .i64 2, .int .i64 0, .int .i64 0, .int .i64 0, .nilsl, .int .i64 1, .nilsl, .nilsl], .dead, .dead, .dead, .dead, .dead, .dead, .dead, .dead, .dead, .dead, .dead, .dead, .dead, .dead, .dead, .dead, .dead, .dead, .dead, .dead, .dead, .dead, .dead, .dead, .dead, .dead, .dead, .dead, .dead, .dead, .dead, .dead, .dead, .dead, .dead, .dead, .dead, .dead, .dead, .dead, .dead, .dead, .dead, .dead, .dead, .dead, .dead, .dead, .dead, .dead, .dead, .dead, .dead, .dead, .dead, .dead, .dead, .dead, .dead, .dead, .dead, .dead, .dead, .dead, .dead, .dead, .dead, .dead, .dead, .dead, .dead, .dead, .dead, .dead, .dead, .dead, .dead, .dead, .dead, .dead, .dead, .dead, .dead, .dead], [some (.row [.int .i64 2, .int .i64 0, .int .i64 0, .int .i64 0, .nilsl, .int .i64 1, .msl 1 6 0 3 7, .nilsl] true 0), some (.row [.int .i64 1, .int .i64 49185, .msl 2 0 0 1 a, .int .i64 1, .int .i64 49185, .msl 3 0 0 1 65531, .int .i64 1, .int .i64 49185, .msl 4 0 0 1 65531, .int .i64 1, .int .i64 49185, .msl 5 0 0 1 65531, .int .i64 1, .int .i64 49185, .msl 6 0 0 1 65531, .int .i64 1, .int .i64 49185, .msl 7 0 0 1 65531, .int .i64 1, .int .i64 49185, .msl 8 0 0 1 65531] true 6), some (.row (zrow a) true 0), some (.row (zrow 65531) true 0), some (.row (zrow 65531) true 0), some (.row (zrow 65531) true 0), some (.row (zrow 65531) true 0), some (.row (zrow 65531) true 0), some (.row (zrow 65531) true 0)]⟩
  | 8 => ⟨[.int .u8 n, .dead, .bool false, .ptr 0 0 0, .int .i64 (2 * (a : Int) + 917576), .int .i64 8, .dead, .dead, .dead, .dead, .dead, .dead, .dead, .bool true, .bool false, .agg [.int .i64 2, .int .i64 0, .int .i64 0, .int .i64 0, .nilsl], .agg [.int .i64 2, .int .i64 0, .int .i64 0, .int .i64 0, .nilsl, .int .i64 1, .nilsl, .nilsl], .dead, .dead, .dead, .dead, .dead, .dead, .dead, .dead, .dead, .dead, .dead, .dead, .dead, .dead, .dead, .dead, .dead, .dead, .dead, .dead, .dead, .dead, .dead, .dead, .dead, .dead, .dead, .dead, .dead, .dead, .dead, .dead, .dead, .dead, .dead, .dead, .dead, .dead, .dead, .dead, .dead, .dead, .dead, .dead, .dead, .dead, .dead, .dead, .dead, .dead, .dead, .dead, .dead, .dead, .dead, .dead, .dead, .dead, .dead, .dead, .dead, .dead, .dead, .dead, .dead, .dead, .dead, .dead, .dead, .dead, .dead, .dead, .dead, .dead, .dead, .dead, .dead, .dead, .dead, .dead, .dead, .dead, .dead, .dead], [some (.row [.int .i64 2, .int .i64 0, .int .i64 0, .int .i64 0, .nilsl, .int .i64 1, .msl 1 7 0 3 8, .nilsl] true 0), some (.row [.int .i64 1, .int .i64 49185, .msl 2 0 0 1 a, .int .i64 1, .int .i64 49185, .msl 3 0 0 1 65531, .int .i64 1, .int .i64 49185, .msl 4 0 0 1 65531, .int .i64 1, .int .i64 49185, .msl 5 0 0 1 65531, .int .i64 1, .int .i64 49185, .msl 6 0 0 1 65531, .int .i64 1, .int .i64 49185, .msl 7 0 0 1 65531, .int .i64 1, .int .i64 49185, .msl 8 0 0 1 65531, .int .i64 1, .int .i64 49185, .msl 9 0 0 1 65531] true 7), some (.row (zrow a) true 0), some (.row (zrow 65531) true 0), some (.row (zrow 65531) true 0), some (.row (zrow 65531) true 0), some (.row (zrow 65531) true 0), some (.row (zrow 65531) true 0), some (.row (zrow 65531) true 0), some (.row (zrow 65531) true 0)]⟩
  | _ => ⟨[], []⟩
theorem round4_0 (m : Nat) (n : Int) (a : Nat) (h0 : 0 ≤ n) (h1 : n < 256) (ha : (a : Int) = 65400 + n % 132) :
    mapHd [20, 19, 39, 38, 37, 36, 35, 34, 33, 32, 31, 30, 29, 28, 27, 26, 25, 24, 23, 22, 21, 6, 18, 17] (evCode X16 (m + 60) 4 0 L4 (S4 n a 0)) = some (.normal, S4 n a 1) := by
  have b0 : a ≤ 65531 := by omega
  have b1 : 65400 ≤ a := by omega
  have c1 : IntKind.i64.wrap n = n := wrapI64 (by omega) (by omega)
  have c2 : n.tmod 132 = n % 132 := Int.tmod_eq_emod_of_nonneg h0
  have c3 : IntKind.i64.wrap (65400 + n % 132) = (a : Int) := by rw [← ha]; exact wrapI64 (by omega) (by omega)
  have c4 : (a : Int) ≤ 70368744177664 := by omega
  have c5 : a ≤ 70368744177664 := by omega
  have c6 : ¬ a = 0 := by omega
  have c7 : IntKind.i64.wrap (2 * (a : Int)) = 2 * (a : Int) := wrapI64 (by omega) (by omega)
  have c8 : IntKind.i64.wrap (44 + 2 * (a : Int)) = 2 * (a : Int) + 44 := by rw [wrapI64 (by omega) (by omega)]; omega
  simp -implicitDefEqProofs [-List.reduceReplicate, L4, B4, Tryd.f4, S4, zrow_eq, zrow_refs, zrow_ren, zrow_len, zrow_scalar, c1, c2, c3, c4, c5, c6, c7, c8]
  rw [if_pos]
  rotate_left
  · kernel_rfl
  · simp -implicitDefEqProofs [-List.reduceReplicate, L4, B4, Tryd.f4, S4, zrow_eq, zrow_refs, zrow_ren, zrow_len, zrow_scalar, c1, c2, c3, c4, c5, c6, c7, c8]
theorem round4_1 (m : Nat) (n : Int) (a : Nat) (h0 : 0 ≤ n) (h1 : n < 256) (ha : (a : Int) = 65400 + n % 132) :
    mapHd [20, 19, 39, 38, 37, 36, 35, 34, 33, 32, 31, 30, 29, 28, 27, 26, 25, 24, 23, 22, 21, 6, 18, 17] (evCode X16 (m + 60) 4 0 L4 (S4 n a 1)) = some (.normal, S4 n a 2) := by
  have b0 : a ≤ 65531 := by omega
  have b1 : 65400 ≤ a := by omega
  have c7 : IntKind.i64.wrap (2 * (a : Int) + 44 + 14) = 2 * (a : Int) + 58 := by rw [wrapI64 (by omega) (by omega)]; omega
  have c8 : IntKind.i64.wrap (2 * (a : Int) + 58 + 131062) = 2 * (a : Int) + 131120 := by rw [wrapI64 (by omega) (by omega)]; omega
  simp -implicitDefEqProofs [-List.reduceReplicate, L4, B4, Tryd.f4, S4, zrow_eq, zrow_refs, zrow_ren, zrow_len, zrow_scalar, c7, c8]
  rw [if_pos]
  rotate_left
  · kernel_rfl
  · simp -implicitDefEqProofs [-List.reduceReplicate, L4, B4, Tryd.f4, S4, zrow_eq, zrow_refs, zrow_ren, zrow_len, zrow_scalar, c7, c8]
theorem round4_2 (m : Nat) (n : Int) (a : Nat) (h0 : 0 ≤ n) (h1 : n < 256) (ha : (a : Int) = 65400 + n % 132) :
    mapHd [20, 19, 39, 38, 37, 36, 35, 34, 33, 32, 31, 30, 29, 28, 27, 26, 25, 24, 23, 22, 21, 6, 18, 17] (evCode X16 (m + 60) 4 0 L4 (S4 n a 2)) = some (.normal, S4 n a 3) := by
  have b0 : a ≤ 65531 := by omega
  have b1 : 65400 ≤ a := by omega
  have c7 : IntKind.i64.wrap (2 * (a : Int) + 131120 + 14) = 2 * (a : Int) + 131134 := by rw [wrapI64 (by omega) (by omega)]; omega
  have c8 : IntKind.i64.wrap (2 * (a : Int) + 131134 + 131062) = 2 * (a : Int) + 262196 := by rw [wrapI64 (by omega) (by omega)]; omega
  simp -implicitDefEqProofs [-List.reduceReplicate, L4, B4, Tryd.f4, S4, zrow_eq, zrow_refs, zrow_ren, zrow_len, zrow_scalar, c7, c8]
  rw [if_pos]
  rotate_left
  · kernel_rfl
  · simp -implicitDefEqProofs [-List.reduceReplicate, L4, B4, Tryd.f4, S4, zrow_eq, zrow_refs, zrow_ren, zrow_len, zrow_scalar, c7, c8]
theorem round4_3 (m : Nat) (n : Int) (a : Nat) (h0 : 0 ≤ n) (h1 : n < 256) (ha : (a : Int) = 65400 + n % 132) :
    mapHd [20, 19, 39, 38, 37, 36, 35, 34, 33, 32, 31, 30, 29, 28, 27, 26, 25, 24, 23, 22, 21, 6, 18, 17] (evCode X16 (m + 60) 4 0 L4 (S4 n a 3)) = some (.normal, S4 n a 4) := by
  have b0 : a ≤ 65531 := by omega
  have b1 : 65400 ≤ a := by omega
  have c7 : IntKind.i64.wrap (2 * (a : Int) + 262196 + 14) = 2 * (a : Int) + 262210 := by rw [wrapI64 (by omega) (by omega)]; omega
  have c8 : IntKind.i64.wrap (2 * (a : Int) + 262210 + 131062) = 2 * (a : Int) + 393272 := by rw [wrapI64 (by omega) (by omega)]; omega
  simp -implicitDefEqProofs [-List.reduceReplicate, L4, B4, Tryd.f4, S4, zrow_eq, zrow_refs, zrow_ren, zrow_len, zrow_scalar, c7, c8]
  rw [if_pos]
  rotate_left
  · kernel_rfl
  · simp -implicitDefEqProofs [-List.reduceReplicate, L4, B4, Tryd.f4, S4, zrow_eq, zrow_refs, zrow_ren, zrow_len, zrow_scalar, c7, c8]
theorem round4_4 (m : Nat) (n : Int) (a : Nat) (h0 : 0 ≤ n) (h1 : n < 256) (ha : (a : Int) = 65400 + n % 132) :
    mapHd [20, 19, 39, 38, 37, 36, 35, 34, 33, 32, 31, 30, 29, 28, 27, 26, 25, 24, 23, 22, 21, 6, 18, 17] (evCode X16 (m + 60) 4 0 L4 (S4 n a 4)) = some (.normal, S4 n a 5) := by
  have b0 : a ≤ 65531 := by omega
  have b1 : 65400 ≤ a := by omega
  have c7 : IntKind.i64.wrap (2 * (a : Int) + 393272 + 14) = 2 * (a : Int) + 393286 := by rw [wrapI64 (by omega) (by omega)]; omega
  have c8 : IntKind.i64.wrap (2 * (a : Int) + 393286 + 131062) = 2 * (a : Int) + 524348 := by rw [wrapI64 (by omega) (by omega)]; omega
  simp -implicitDefEqProofs [-List.reduceReplicate, L4, B4, Tryd.f4, S4, zrow_eq, zrow_refs, zrow_ren, zrow_len, zrow_scalar, c7, c8]
  rw [if_pos]
  rotate_left
  · kernel_rfl
  · simp -implicitDefEqProofs [-List.reduceReplicate, L4, B4, Tryd.f4, S4, zrow_eq, zrow_refs, zrow_ren, zrow_len, zrow_scalar, c7, c8]
theorem round4_5 (m : Nat) (n : Int) (a : Nat) (h0 : 0 ≤ n) (h1 : n < 256) (ha : (a : Int) = 65400 + n % 132) :
    mapHd [20, 19, 39, 38, 37, 36, 35, 34, 33, 32, 31, 30, 29, 28, 27, 26, 25, 24, 23, 22, 21, 6, 18, 17] (evCode X16 (m + 60) 4 0 L4 (S4 n a 5)) = some (.normal, S4 n a 6) := by
  have b0 : a ≤ 65531 := by omega
  have b1 : 65400 ≤ a := by omega
  have c7 : IntKind.i64.wrap (2 * (a : Int) + 524348 + 14) = 2 * (a : Int) + 524362 := by rw [wrapI64 (by omega) (by omega)]; omega
  have c8 : IntKind.i64.wrap (2 * (a : Int) + 524362 + 131062) = 2 * (a : Int) + 655424 := by rw [wrapI64 (by omega) (by omega)]; omega
  simp -implicitDefEqProofs [-List.reduceReplicate, L4, B4, Tryd.f4, S4, zrow_eq, zrow_refs, zrow_ren, zrow_len, zrow_scalar, c7, c8]
  rw [if_pos]
  rotate_left
  · kernel_rfl
  · simp -implicitDefEqProofs [-List.reduceReplicate, L4, B4, Tryd.f4, S4, zrow_eq, zrow_refs, zrow_ren, zrow_len, zrow_scalar, c7, c8]
theorem round4_6 (m : Nat) (n : Int) (a : Nat) (h0 : 0 ≤ n) (h1 : n < 256) (ha : (a : Int) = 65400 + n % 132) :
    mapHd [20, 19, 39, 38, 37, 36, 35, 34, 33, 32, 31, 30, 29, 28, 27, 26, 25, 24, 23, 22, 21, 6, 18, 17] (evCode X16 (m + 60) 4 0 L4 (S4 n a 6)) = some (.normal, S4 n a 7) := by
  have b0 : a ≤ 65531 := by omega
  have b1 : 65400 ≤ a := by omega
  have c7 : IntKind.i64.wrap (2 * (a : Int) + 655424 + 14) = 2 * (a : Int) + 655438 := by rw [wrapI64 (by omega) (by omega)]; omega
  have c8 : IntKind.i64.wrap (2 * (a : Int) + 655438 + 131062) = 2 * (a : Int) + 786500 := by rw [wrapI64 (by omega) (by omega)]; omega
  simp -implicitDefEqProofs [-List.reduceReplicate, L4, B4, Tryd.f4, S4, zrow_eq, zrow_refs, zrow_ren, zrow_len, zrow_scalar, c7, c8]
  rw [if_pos]
  rotate_left
  · kernel_rfl
  · simp -implicitDefEqProofs [-List.reduceReplicate, L4, B4, Tryd.f4, S4, zrow_eq, zrow_refs, zrow_ren, zrow_len, zrow_scalar, c7, c8]
theorem round4_7 (m : Nat) (n : Int) (a : Nat) (h0 : 0 ≤ n) (h1 : n < 256) (ha : (a : Int) = 65400 + n % 132) :
    mapHd [20, 19, 39, 38, 37, 36, 35, 34, 33, 32, 31, 30, 29, 28, 27, 26, 25, 24, 23, 22, 21, 6, 18, 17] (evCode X16 (m + 60) 4 0 L4 (S4 n a 7)) = some (.normal, S4 n a 8) := by
  have b0 : a ≤ 65531 := by omega
  have b1 : 65400 ≤ a := by omega
  have c7 : IntKind.i64.wrap (2 * (a : Int) + 786500 + 14) = 2 * (a : Int) + 786514 := by rw [wrapI64 (by omega) (by omega)]; omega
  have c8 : IntKind.i64.wrap (2 * (a : Int) + 786514 + 131062) = 2 * (a : Int) + 917576 := by rw [wrapI64 (by omega) (by omega)]; omega
  simp -implicitDefEqProofs [-List.reduceReplicate, L4, B4, Tryd.f4, S4, zrow_eq, zrow_refs, zrow_ren, zrow_len, zrow_scalar, c7, c8]
  rw [if_pos]
  rotate_left
  · kernel_rfl
  · simp -implicitDefEqProofs [-List.reduceReplicate, L4, B4, Tryd.f4, S4, zrow_eq, zrow_refs, zrow_ren, zrow_len, zrow_scalar, c7, c8]
end Go.Ev
set_option linter.unusedVariables false
set_option linter.unusedSimpArgs false
set_option linter.unusedSectionVars false
set_option maxRecDepth 100000
set_option maxHeartbeats 8000000
namespace Go.Ev
open Go Go.Proofs
attribute [local simp] run_seq run_then run_then_ret run_then_exit run_region run_regionK run_cond run_cond_true run_cond_false run_block run_block_exit run_block_ret run_block_normal evCode_exit evCode_ret evCode_skip evRegion_seq run_seqs run_seqK evSeq_zero run_step run_stepO run_stepK_true run_stepK_false run_stepR wantedV evOp evOpR opd putTm putAll ofValue ofScalar binV intOp unV und_p size_p bytesOf_p zeroV_p aggT_p size3 size5 size9 size22 size24 size25 size27 size28 size29 size31 size40 size42 size47 agg3 agg5 agg9 agg22 agg24 agg25 agg27 agg28 agg29 agg31 agg40 agg42 agg47 bytesOf3 bytesOf5 bytesOf9 bytesOf42 bytesOf47 zeroV3 zeroV5 zeroV9 zeroV24 zeroV27 zeroV31 zeroV42 zeroV47 Tryd.underlying3 Tryd.underlying5 Tryd.underlying9 Tryd.underlying22 Tryd.underlying24 Tryd.underlying27 Tryd.underlying28 Tryd.underlying29 Tryd.underlying31 Tryd.underlying40 Tryd.underlying42 Tryd.underlying47 Tryd.underlying51 Tryd.underlying61 Tryd.underlying78 wrapI64 builtinV convV len9 len_nil len_slz len_sl len_msl slT minV asI asN ce_int ce_str ce_bool ce_agg ce_msl ce_sl ce_nilsl sc_int sc_str sc_bool sc_msl sc_sl sc_nilsl sc_slz fillV splice Heap.put Heap.get appendV srcCells cellsOf rowOf zerosT isIntT isStr maxBytes indexAddrV fieldAddrV fieldOf sliceV storeAt cellsAt takeV partV nextV strOp cfst csnd mapHd_some hdS_mk canonK_some reach_nil reach_cons reachGo clearTm refsL V.refs Blk.refs renL V.ren Blk.ren indexOf subHeap resultsR leaveR_some lastK_ret lastK_exit fin_ret fin_normal leave_int leave_bool leave_str run_callV ext_p XR_x mut_p callA_tuple callB_some callC_some resolve_go resolveK_nil resolveK_cons mergeAt freezeRows freezeRow V.msls mslsL V.deep deepL V.resolve1 V.flat flatL c17 c34 c47 c71 evRegion_draw drawK_some run_cons run_traceK run_trace run_trace0 run_traceN run_traceC
/-- The report of ReportLong. -/
def zItm (k : Nat) : Itm := ⟨1, 49185, .sl 1 k (zrow k)⟩
def r4 (a : Nat) : Rep := ⟨2, 0, 0, 0, 1, [zItm a, zItm 65531, zItm 65531, zItm 65531, zItm 65531, zItm 65531, zItm 65531, zItm 65531], []⟩
theorem zItm_data (k : Nat) (hk : k ≤ 100000000) : dataOf (.sl 1 k (zrow k)) = some (List.replicate k 0) := by
  rw [zrow_bytes]
  show (match dataOf.intsOf (bytesI (List.replicate k 0)) with | some bs => if True ∧ bs.length = k ∧ bs.length ≤ 100000000000 ∧ (∀ x ∈ bs, 0 ≤ x ∧ x < 256) then some bs else none | none => none) = _
  rw [intsOf_bytes]
  show (if True ∧ (List.replicate k (0 : Int)).length = k ∧ (List.replicate k (0 : Int)).length ≤ 100000000000 ∧ (∀ x ∈ List.replicate k (0 : Int), 0 ≤ x ∧ x < 256) then some (List.replicate k 0) else none) = _
  rw [if_pos]
  rw [List.length_replicate]
  refine ⟨trivial, rfl, by omega, fun x hx => ?_⟩
  rw [(List.mem_replicate.1 hx).2]
  decide
theorem zItm_bytes (k : Nat) (hk : k ≤ 100000000) : (zItm k).bytes = List.replicate k 0 ∧ (zItm k).ok := by
  have h : (zItm k).bytes = List.replicate k 0 := by
    unfold Itm.bytes zItm
    simp only
    rw [zItm_data k hk]; rfl
  exact ⟨h, by unfold Itm.ok; rw [h]; exact zItm_data k hk⟩
theorem r4_ok (a : Nat) (ha : a ≤ 65531) : RepOk (r4 a) := by
  refine ⟨?_, by simp [r4], by simp [r4]⟩
  intro t ht
  simp only [r4, List.mem_cons, List.not_mem_nil, or_false] at ht
  rcases ht with rfl | rfl | rfl | rfl | rfl | rfl | rfl | rfl
  · exact (zItm_bytes a (by omega)).2
  all_goals exact (zItm_bytes 65531 (by omega)).2
theorem r4_may (a : Nat) (ha : a ≤ 65531) : mayB (r4 a) = true := by
  have hp : protoB 49185 = true := by decide
  have h1 : mayItem 1 49185 a = true := by unfold mayItem; rw [hp]; simp; omega
  have h2 : mayItem 1 49185 65531 = true := by unfold mayItem; rw [hp]; decide
  have e : ∀ k, k ≤ 100000000 → mayItem (zItm k).d (zItm k).p (zItm k).bytes.length = mayItem 1 49185 k := by
    intro k hk
    rw [(zItm_bytes k hk).1, List.length_replicate]; rfl
  unfold mayB allItems
  simp only [r4, List.all_cons, List.all_nil]
  rw [e a (by omega), e 65531 (by omega), h1, h2]
  have h3 : verdictB 2 0 0 0 1 8 0 = true := by decide
  simp only [List.length_cons, List.length_nil, Nat.zero_add, Nat.reduceAdd, h3, Bool.true_and, Bool.and_true]
  rfl
theorem zItm_line (k : Nat) (h0 : 0 < k) (hk : k ≤ 100000000) : (itemL (zItm k)).length = 13 + 2 * k := by
  unfold itemL itemS
  rw [join4, (zItm_bytes k hk).1]
  have h1 : (dirS (zItm k).d).length = 2 := by
    show (dirS 1).length = 2
    decide
  have h2 : (hexS (zItm k).p).length = 4 := by
    show (hexS 49185).length = 4
    decide
  have h3 : (dataS (List.replicate k 0)).length = 2 * k := by
    unfold dataS
    rw [if_neg (by intro h; have := congrArg List.length h; simp at this; omega)]
    simp [toBytes, hexI_len]
  have h4 : bItem.length = 4 := rfl
  omega
theorem r4_len' (r : Rep) (x y : Itm) (n m : Nat) (hr : r = ⟨2, 0, 0, 0, 1, [x, y, y, y, y, y, y, y], []⟩) (l1 : (itemL x).length = n) (l2 : (itemL y).length = m) : (textOf r).length = n + 7 * m + 38 := by
  subst hr
  have d1 : (decS 1).length = 1 := by decide
  have d0 : (decS 0).length = 1 := by decide
  rw [textOf_unl]
  simp only [linesOf, headL, List.map_cons, List.map_nil, List.append_nil, List.cons_append, List.nil_append, unl_cons, List.length_append, List.length_cons, l1, l2]
  have u0 : (unl []).length = 0 := rfl
  have t0 : (toldS 2 0 0 0).length = 8 := by
    unfold toldS
    rw [if_neg (by decide), if_pos rfl, List.length_append, d0]
    rfl
  have i0 : (bItems ++ decS 1).length = 7 := by rw [List.length_append, d1]; rfl
  have b0 : bUmp.length = 8 := rfl
  have e0 : bEnd.length = 3 := rfl
  simp only [List.length_append] at i0
  omega
theorem r4_len (a : Nat) (h0 : 0 < a) (ha : a ≤ 65531) : (textOf (r4 a)).length = 2 * a + 917576 := by
  have h := r4_len' (r4 a) (zItm a) (zItm 65531) _ _ rfl (zItm_line a h0 (by omega)) (zItm_line 65531 (by omega) (by omega))
  rw [h]
  omega
def zstr (n : Nat) : List UInt8 := List.replicate n 0
theorem zrow_str (n : Nat) : strV (zrow n) = some (zstr n) := by
  rw [zrow_bytes, strV_bytes]
  simp [zstr]
theorem zstr_long : getV (zstr 1048577) = errV 0 4 := by
  unfold getV
  rw [if_pos (by rw [zstr, List.length_replicate]; omega)]
theorem kv8 (a : Nat) (h0 : 0 < a) (ha : a ≤ 65531) : ∃ rd, ∀ (rec : FuncId → Nat → Code → St → Option (Ex × St)) (fr : Nat → Nat), callV X16 (callWith X16 rec) 8 [.agg [.int .i64 2, .int .i64 0, .int .i64 0, .int .i64 0, .nilsl, .int .i64 1, .msl 1 7 0 3 8, .nilsl]] fr [some (.row [.int .i64 2, .int .i64 0, .int .i64 0, .int .i64 0, .nilsl, .int .i64 1, .msl 1 7 0 3 8, .nilsl] true 0), some (.row [.int .i64 1, .int .i64 49185, .msl 2 0 0 1 a, .int .i64 1, .int .i64 49185, .msl 3 0 0 1 65531, .int .i64 1, .int .i64 49185, .msl 4 0 0 1 65531, .int .i64 1, .int .i64 49185, .msl 5 0 0 1 65531, .int .i64 1, .int .i64 49185, .msl 6 0 0 1 65531, .int .i64 1, .int .i64 49185, .msl 7 0 0 1 65531, .int .i64 1, .int .i64 49185, .msl 8 0 0 1 65531, .int .i64 1, .int .i64 49185, .msl 9 0 0 1 65531] true 7), some (.row (zrow a) true 0), some (.row (zrow 65531) true 0), some (.row (zrow 65531) true 0), some (.row (zrow 65531) true 0), some (.row (zrow 65531) true 0), some (.row (zrow 65531) true 0), some (.row (zrow 65531) true 0), some (.row (zrow 65531) true 0)] = some { v := putV (r4 a), rd := rd } := by
  have hrep : repOf (.agg [.int .i64 2, .int .i64 0, .int .i64 0, .int .i64 0, .nilsl, .int .i64 1, .sl 3 8 [.int .i64 1, .int .i64 49185, .sl 1 a (zrow a), .int .i64 1, .int .i64 49185, .sl 1 65531 (zrow 65531), .int .i64 1, .int .i64 49185, .sl 1 65531 (zrow 65531), .int .i64 1, .int .i64 49185, .sl 1 65531 (zrow 65531), .int .i64 1, .int .i64 49185, .sl 1 65531 (zrow 65531), .int .i64 1, .int .i64 49185, .sl 1 65531 (zrow 65531), .int .i64 1, .int .i64 49185, .sl 1 65531 (zrow 65531), .int .i64 1, .int .i64 49185, .sl 1 65531 (zrow 65531)], .nilsl]) = some (r4 a) := by
    have hp : parseI [.int .i64 1, .int .i64 49185, .sl 1 a (zrow a), .int .i64 1, .int .i64 49185, .sl 1 65531 (zrow 65531), .int .i64 1, .int .i64 49185, .sl 1 65531 (zrow 65531), .int .i64 1, .int .i64 49185, .sl 1 65531 (zrow 65531), .int .i64 1, .int .i64 49185, .sl 1 65531 (zrow 65531), .int .i64 1, .int .i64 49185, .sl 1 65531 (zrow 65531), .int .i64 1, .int .i64 49185, .sl 1 65531 (zrow 65531), .int .i64 1, .int .i64 49185, .sl 1 65531 (zrow 65531)] = some (r4 a).short := by
      exact parseI_items (r4 a).short (r4_ok a ha).1
    simp only [repOf, itemsOf, slOf, if_true, hp, cellsOfV, witOk]
    simp [r4, V.scalar, V.msls, V.refs]
  have hT : (textOf (r4 a)).length ≤ 140737488355328 := by rw [r4_len a h0 ha]; omega
  have hF : F8 [.agg [.int .i64 2, .int .i64 0, .int .i64 0, .int .i64 0, .nilsl, .int .i64 1, .sl 3 8 [.int .i64 1, .int .i64 49185, .sl 1 a (zrow a), .int .i64 1, .int .i64 49185, .sl 1 65531 (zrow 65531), .int .i64 1, .int .i64 49185, .sl 1 65531 (zrow 65531), .int .i64 1, .int .i64 49185, .sl 1 65531 (zrow 65531), .int .i64 1, .int .i64 49185, .sl 1 65531 (zrow 65531), .int .i64 1, .int .i64 49185, .sl 1 65531 (zrow 65531), .int .i64 1, .int .i64 49185, .sl 1 65531 (zrow 65531), .int .i64 1, .int .i64 49185, .sl 1 65531 (zrow 65531)], .nilsl]] [] = some (putV (r4 a), []) := by
    simp only [F8, hrep, hT, if_true]
  have hpr := putV_refs (r4 a)
  have hfl : (putV (r4 a)).flat = true := by
    obtain ⟨x, e, hx, _⟩ := put_cases (r4 a)
    rw [hx]; rfl
  have c8 : ∀ (rec : FuncId → Nat → Code → St → Option (Ex × St)) args H, callWith X16 rec 8 args H = F8 args H := fun rec args H => call_hook rfl _ _
  have hren : ∀ f, (putV (r4 a)).ren f = putV (r4 a) := fun f => ren_id f _ hpr
  refine ⟨[1, 2, 3, 4, 5, 6, 7, 8, 9], fun rec fr => ?_⟩
  simp -implicitDefEqProofs [-List.reduceReplicate, c8, hF, zrow_refs, zrow_ren, zrow_msls, zrow_len, zrow_take, hren, hfl]
end Go.Ev
