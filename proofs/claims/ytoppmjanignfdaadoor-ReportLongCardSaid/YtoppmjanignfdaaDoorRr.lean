/- A part of the proof of ReportBack (the second form: what is handed in is of bulk at most 1048576): no statement of the seat's stands here. -/
import Derived.Test.YtoppmjanignfdaaDoorRq
set_option linter.unusedSectionVars false
set_option linter.unusedSimpArgs false
set_option linter.unusedVariables false
set_option linter.all false
set_option linter.unusedVariables false
set_option linter.unusedSimpArgs false
set_option linter.unusedSectionVars false
set_option maxRecDepth 100000
set_option maxHeartbeats 8000000
namespace Go.Ev
open Go Go.Proofs
def bRej : List UInt8 := [114, 101, 106, 101, 99, 116]
def bMalf : List UInt8 := [109, 97, 108, 102, 111, 114, 109, 101, 100]
def bItemsW : List UInt8 := [105, 116, 101, 109, 115]
def esR : List (V × V) := [(.str bAccept, .func (.func 54) [] []), (.str bRej, .func (.func 55) [] []), (.str bMalf, .func (.func 56) [] []), (.str bItem, .func (.func 57) [] []), (.str bCell, .func (.func 61) [] [])]
theorem c42 (m : Nat) : callWith X10 (evCode X10 (m + 30)) 42 [] [] = some (.map 0, [some (.map esR)]) := by kernel_rfl
theorem renEs_R (f : Nat → Option Nat) : renEs f esR = esR := by simp [esR, renEs, V.ren, renL]
theorem refsEs_R : refsEs esR = [] := by simp [esR, refsEs, V.refs, refsL]
def findW (w : List UInt8) : V := if w = bAccept then .func (.func 54) [] [] else if w = bRej then .func (.func 55) [] [] else if w = bMalf then .func (.func 56) [] [] else if w = bItem then .func (.func 57) [] [] else if w = bCell then .func (.func 61) [] [] else .nilfunc
theorem zeroV81 : zeroV XR 81 = some .nilfunc := by kernel_rfl
theorem look82 (H : Heap) (b : Nat) (w : List UInt8) (hm : mapOf H b = some esR) : lookupV X10 82 (.map b) (.str w) false H = some { v := findW w, rd := [b] } := by
  unfold lookupV findW
  rw [und_p, Tryd.underlying82]
  simp only [und_p, Tryd.underlying9, keyFits, hm, zeroV_p, zeroV81, Option.pure_def, Option.bind_eq_bind, Option.bind_some, Bool.not_true, Bool.false_eq_true, if_false, esR, findKey, keySame, sameBytes_iff]
  by_cases h1 : w = bAccept
  · simp [h1]
  · by_cases h2 : w = bRej
    · simp [h1, h2, show bRej ≠ bAccept by decide]
    · by_cases h3 : w = bMalf
      · simp [h1, h2, h3, show bMalf ≠ bAccept by decide, show bMalf ≠ bRej by decide]
      · by_cases h4 : w = bItem
        · simp [h1, h2, h3, h4, show bItem ≠ bAccept by decide, show bItem ≠ bRej by decide, show bItem ≠ bMalf by decide]
        · by_cases h5 : w = bCell
          · simp [h1, h2, h3, h4, h5, show bCell ≠ bAccept by decide, show bCell ≠ bRej by decide, show bCell ≠ bMalf by decide, show bCell ≠ bItem by decide]
          · simp [h1, h2, h3, h4, h5]
theorem neqF (g : FuncId) : equalV X10 81 (.func (.func g) [] []) .nilfunc = some false := by
  unfold equalV eqAt; rw [und_p, Tryd.underlying81]; rfl
theorem neqN : equalV X10 81 .nilfunc .nilfunc = some true := by
  unfold equalV eqAt; rw [und_p, Tryd.underlying81]; rfl
/- May of what is being read -/
theorem mslsL_items {l : List Itm} (h : ∀ i ∈ l, i.ok) : mslsL (itemsV l) = [] := (itemsV_flat l h).1
theorem itemsOf_items {l : List Itm} (h : ∀ i ∈ l, i.ok) (h0 : l ≠ []) (hl : l.length ≤ 2000000) : itemsOf (.sl 3 l.length (itemsV l)) = some l := by
  have hp := List.length_pos_iff.2 h0
  simp [itemsOf, slOf, parseI_items l h, hp, hl]
theorem cellsOf_cells {l : List Cel} (h0 : l ≠ []) (hl : l.length ≤ 2000000) : cellsOfV (.sl 3 l.length (cellsV l)) = some l := by
  have hp := List.length_pos_iff.2 h0
  simp [cellsOfV, slOf, parseC_cells l, hp, hl]
theorem hookF_of {args pargs : List V} {H : Heap} {l : List Nat} {b : Bool} (h1 : resolve H 6 (.tuple args) = (.tuple pargs, l)) (h2 : refsL pargs = []) (h3 : F12p pargs = some (.bool b)) : hookF F12p args H = some (.bool b, H) := by
  unfold hookF pureArgs
  rw [h1]
  simp [h2, h3, V.flat]
section
variable {r : Rep} (hr : (∀ i ∈ r.short, i.ok) ∧ r.short.length ≤ 2000000 ∧ r.cells.length ≤ 2000000)
include hr
theorem F12_of {S C : V} (hS : (r.short = [] ∧ S = .nilsl) ∨ (r.short ≠ [] ∧ S = .sl 3 r.short.length (itemsV r.short))) (hC : (r.cells = [] ∧ C = .nilsl) ∨ (r.cells ≠ [] ∧ C = .sl 3 r.cells.length (cellsV r.cells))) :
    F12p [.agg [.int .i64 r.k, .int .i64 r.a, .int .i64 r.fa, .int .i64 r.fe, .nilsl, .int .i64 r.items, S, C]] = some (.bool (mayB r)) := by
  obtain ⟨hi, hs, hc⟩ := hr
  have e1 : itemsOf S = some r.short := by
    rcases hS with ⟨h, rfl⟩ | ⟨h, rfl⟩
    · rw [h]; rfl
    · exact itemsOf_items hi h hs
  have e2 : cellsOfV C = some r.cells := by
    rcases hC with ⟨h, rfl⟩ | ⟨h, rfl⟩
    · rw [h]; rfl
    · exact cellsOf_cells h hc
  simp [F12p, repOf, e1, e2, witOk, V.scalar, V.msls, V.refs]
theorem may_nn (h1 : r.short = []) (h2 : r.cells = []) : hookF F12p [.agg [.int .i64 r.k, .int .i64 r.a, .int .i64 r.fa, .int .i64 r.fe, .nilsl, .int .i64 r.items, .nilsl, .nilsl]] [] = some (.bool (mayB r), []) := by
  refine hookF_of (l := []) ?_ ?_ (F12_of hr (.inl ⟨h1, rfl⟩) (.inl ⟨h2, rfl⟩))
  · simp [resolve_go, resolveK, V.msls, mslsL]
  · simp [refsL, V.refs]
theorem may_sn (h1 : r.short ≠ []) (h2 : r.cells = []) (mu : Bool) : hookF F12p [.agg [.int .i64 r.k, .int .i64 r.a, .int .i64 r.fa, .int .i64 r.fe, .nilsl, .int .i64 r.items, .msl 0 (r.short.length - 1) 0 3 r.short.length, .nilsl]] [some (.row (itemsV r.short) mu (r.short.length - 1))] = some (.bool (mayB r), [some (.row (itemsV r.short) mu (r.short.length - 1))]) := by
  obtain ⟨f1, f2, f3⟩ := itemsV_flat r.short hr.1
  have hl := itemsV_len r.short
  have tk : (itemsV r.short).take (r.short.length * 3) = itemsV r.short := List.take_of_length_le (by omega)
  have g : r.short.length * 3 ≤ 3 * r.short.length := by omega
  refine hookF_of (l := [0]) ?_ ?_ (F12_of hr (.inr ⟨h1, rfl⟩) (.inl ⟨h2, rfl⟩))
  · simp [resolve_go, resolveK, V.msls, mslsL, V.deep, deepL, V.resolve1, rowOf, Heap.get, tk, hl, g, f1]
  · simp [refsL, V.refs, f2]
theorem may_nc (h1 : r.short = []) (h2 : r.cells ≠ []) (mu : Bool) : hookF F12p [.agg [.int .i64 r.k, .int .i64 r.a, .int .i64 r.fa, .int .i64 r.fe, .nilsl, .int .i64 r.items, .nilsl, .msl 0 (r.cells.length - 1) 0 3 r.cells.length]] [some (.row (cellsV r.cells) mu (r.cells.length - 1))] = some (.bool (mayB r), [some (.row (cellsV r.cells) mu (r.cells.length - 1))]) := by
  obtain ⟨f1, f2, f3⟩ := cellsV_flat r.cells
  have hl := cellsV_len r.cells
  have tk : (cellsV r.cells).take (r.cells.length * 3) = cellsV r.cells := List.take_of_length_le (by omega)
  have g : r.cells.length * 3 ≤ 3 * r.cells.length := by omega
  refine hookF_of (l := [0]) ?_ ?_ (F12_of hr (.inl ⟨h1, rfl⟩) (.inr ⟨h2, rfl⟩))
  · simp [resolve_go, resolveK, V.msls, mslsL, V.deep, deepL, V.resolve1, rowOf, Heap.get, tk, hl, g, f1]
  · simp [refsL, V.refs, f2]
theorem may_sc (h1 : r.short ≠ []) (h2 : r.cells ≠ []) (mu mu' : Bool) : hookF F12p [.agg [.int .i64 r.k, .int .i64 r.a, .int .i64 r.fa, .int .i64 r.fe, .nilsl, .int .i64 r.items, .msl 0 (r.short.length - 1) 0 3 r.short.length, .msl 1 (r.cells.length - 1) 0 3 r.cells.length]]
    [some (.row (itemsV r.short) mu (r.short.length - 1)), some (.row (cellsV r.cells) mu' (r.cells.length - 1))] = some (.bool (mayB r), [some (.row (itemsV r.short) mu (r.short.length - 1)), some (.row (cellsV r.cells) mu' (r.cells.length - 1))]) := by
  obtain ⟨f1, f2, f3⟩ := cellsV_flat r.cells
  obtain ⟨e1, e2, e3⟩ := itemsV_flat r.short hr.1
  have hl := cellsV_len r.cells
  have hl' := itemsV_len r.short
  have tk : (cellsV r.cells).take (r.cells.length * 3) = cellsV r.cells := List.take_of_length_le (by omega)
  have tk' : (itemsV r.short).take (r.short.length * 3) = itemsV r.short := List.take_of_length_le (by omega)
  have g : r.cells.length * 3 ≤ 3 * r.cells.length := by omega
  have g' : r.short.length * 3 ≤ 3 * r.short.length := by omega
  refine hookF_of (l := [0, 1]) ?_ ?_ (F12_of hr (.inr ⟨h1, rfl⟩) (.inr ⟨h2, rfl⟩))
  · simp [resolve_go, resolveK, V.msls, mslsL, V.deep, deepL, V.resolve1, rowOf, Heap.get, tk, tk', hl, hl', g, g', f1, e1]
  · simp [refsL, V.refs, f2, e2]
end
def chk (p : Bool × Rep) : Bool × Rep := (p.1 && mayB p.2, p.2)
def three (f : List UInt8 → List UInt8 → List UInt8 → Bool × Rep) (r : Rep) : List (List UInt8) → Bool × Rep
  | [a, b, c] => f a b c
  | _ => (false, r)
def readS (r : Rep) (two : Bool) (w : List UInt8) (ws : List (List UInt8)) : Bool × Rep :=
  if w = bAccept then (if two then chk (decide (ws = []), { r with k := 1 }) else (false, r))
  else if w = bRej then (if two then chk (rejR r ws) else (false, r))
  else if w = bMalf then (if two then chk (malR r ws) else (false, r))
  else if w = bItem then (if two then (false, r) else chk (three (itemR r) r ws))
  else if w = bCell then (if two then (false, r) else chk (three (cellR r) r ws))
  else (false, r)
def itemsR (r : Rep) (w : List UInt8) (ws : List (List UInt8)) : Bool × Rep := match numsGo ws [] with
  | some [n] => if w = bItemsW then (true, { r with items := n }) else (false, r)
  | _ => (false, r)
def lineS (r : Rep) (i : Int) (s : List UInt8) : Bool × Rep := match splitC 32 s with
  | [] => (false, r)
  | w :: ws => if i = 0 then (decide (s = bUmp), r) else if i = 1 then itemsR r w ws else readS r (decide (i = 2)) w ws
end Go.Ev
set_option linter.unusedVariables false
set_option linter.unusedSimpArgs false
set_option linter.unusedSectionVars false
set_option maxRecDepth 100000
set_option maxHeartbeats 8000000
namespace Go.Ev
open Go Go.Proofs
theorem eqB (a b : Bool) : equalV X10 4 (.bool a) (.bool b) = some (a == b) := by
  unfold equalV eqAt; rw [und_p, Tryd.underlying4]; rfl
theorem F40_str (s : List UInt8) (hs : s.length ≤ 1000000000) (w : List UInt8) (ws : List (List UInt8)) (h : splitC 32 s = w :: ws) : F40 [.str s, .str [32]] [] = some (.sl 1 (ws.length + 1) (.str w :: strsV ws), []) := by
  simp [F40, hs, h, strsV]
noncomputable def B20 : Code := Tryd.f20.body.getD .skip
noncomputable def R20 : Code := csnd (csnd (csnd B20))
theorem shape20 : Tryd.f20.body = some (.seq (cfst B20) (.seq (cfst (csnd B20)) (.seq (cfst (csnd (csnd B20))) R20))) := by kernel_rfl
/-- line's slots behind its first part; what stands in eighteen of them doesn't matter. -/
def tm20 (i : Int) (s w : List UInt8) (ws : List (List UInt8)) (first : Bool) (g : List V) : List V :=
  [.ptr 0 0 0, .int .i64 i, .str s, .dead, .dead, .dead, .bool false, .sl 1 (ws.length + 1) (.str w :: strsV ws), .bool first, .dead, .dead, .dead, g.getD 0 .dead, g.getD 1 .dead, g.getD 2 .dead, g.getD 3 .dead, g.getD 4 .dead, g.getD 5 .dead, g.getD 6 .dead, g.getD 7 .dead, g.getD 8 .dead, g.getD 9 .dead, g.getD 10 .dead,
    g.getD 11 .dead, g.getD 12 .dead, g.getD 13 .dead, g.getD 14 .dead, g.getD 15 .dead, g.getD 16 .dead, g.getD 17 .dead] ++ List.replicate 53 .dead
def isFirst (w : List UInt8) : Bool := decide (w = [97, 99, 99, 101, 112, 116]) || decide (w = [114, 101, 106, 101, 99, 116]) || decide (w = [109, 97, 108, 102, 111, 114, 109, 101, 100])
theorem pre20 (m : Nat) (H : Heap) (p : Nat) (i : Int) (s : List UInt8) (hs : s.length ≤ 1000000000) (w : List UInt8) (ws : List (List UInt8)) (hsp : splitC 32 s = w :: ws) :
    ∃ g, evCode X10 (m + 200) 20 p (.seq (cfst B20) (.seq (cfst (csnd B20)) (.seq (cfst (csnd (csnd B20))) R20))) ⟨[.ptr 0 0 0, .int .i64 i, .str s] ++ List.replicate 80 .dead, H⟩ = evCode X10 (m + 197) 20 p R20 ⟨tm20 i s w ws (isFirst w) g, H⟩ := by
  have h40 := F40_str s hs w ws hsp
  unfold isFirst
  cases e1 : decide (w = [97, 99, 99, 101, 112, 116])
  · cases e2 : decide (w = [114, 101, 106, 101, 99, 116])
    · cases e3 : decide (w = [109, 97, 108, 102, 111, 114, 109, 101, 100])
      · refine ⟨[.str s, .sl 1 (ws.length + 1) (.str w :: strsV ws), .sl 1 (ws.length + 1) (.str w :: strsV ws), .iptr (.str w :: strsV ws), .str w, .bool false, .bool false, .sl 1 (ws.length + 1) (.str w :: strsV ws), .iptr (.str w :: strsV ws), .str w, .bool false, .bool false, .bool false, .sl 1 (ws.length + 1) (.str w :: strsV ws), .iptr (.str w :: strsV ws), .str w, .bool false, .bool false], ?_⟩
        simp -implicitDefEqProofs [run_seq, run_then, run_then_ret, run_then_exit, run_region, run_regionK, run_cond, run_cond_true, run_cond_false, run_block, run_block_exit, run_block_ret, run_block_normal, evCode_exit, evCode_ret, evCode_skip, evRegion_seq, run_seqs, run_seqK, evSeq_zero, run_step, run_stepO, run_stepK_true, run_stepK_false, run_stepR, wantedV, evOp, evOpR, opd, putTm, putAll, ofValue, ofScalar, binV, intOp, unV, und_p, size_p, bytesOf_p, zeroV_p, aggT_p, size3, size5, size9, size22, size24, size25, size27, size28, size29, size31, size40, size42, size47, agg3, agg5, agg9, agg22, agg24, agg25, agg27, agg28, agg29, agg31, agg40, agg42, agg47, bytesOf3, bytesOf5, bytesOf9, bytesOf42, bytesOf47, zeroV3, zeroV5, zeroV9, zeroV24, zeroV27, zeroV31, zeroV42, zeroV47, Tryd.underlying3, Tryd.underlying5, Tryd.underlying9, Tryd.underlying22, Tryd.underlying24, Tryd.underlying27, Tryd.underlying28, Tryd.underlying29, Tryd.underlying31, Tryd.underlying40, Tryd.underlying42, Tryd.underlying47, Tryd.underlying51, Tryd.underlying61, Tryd.underlying78, wrapI64, builtinV, convV, len9, len_nil, len_slz, len_sl, len_msl, slT, minV, asI, asN, ce_int, ce_str, ce_bool, ce_agg, ce_msl, ce_sl, ce_nilsl, sc_int, sc_str, sc_bool, sc_msl, sc_sl, sc_nilsl, sc_slz, fillV, splice, Heap.put, Heap.get, appendV, srcCells, cellsOf, rowOf, zerosT, isIntT, isStr, maxBytes, indexAddrV, fieldAddrV, fieldOf, sliceV, storeAt, cellsAt, takeV, partV, nextV, strOp, cfst, csnd, mapHd_some, hdS_mk, canonK_some, reach_nil, reach_cons, reachGo, clearTm, refsL, V.refs, Blk.refs, renL, V.ren, Blk.ren, indexOf, subHeap, resultsR, leaveR_some, lastK_ret, lastK_exit, fin_ret, fin_normal, leave_int, leave_bool, leave_str, run_callV, ext_p, XR_x, mut_p, callA_tuple, callB_some, callC_some, resolve_go, resolveK_nil, resolveK_cons, mergeAt, freezeRows, freezeRow, V.msls, mslsL, V.deep, deepL, V.resolve1, V.flat, flatL, c17, c34, c47, c71, evRegion_draw, drawK_some, run_cons, run_traceK, run_trace, run_trace0, run_traceN, run_traceC, B20, Tryd.f20, c40', h40, sameBytes_iff, refsL_strs, mslsL_strs, renL_strs, tm20, e1, e2, e3]
      · refine ⟨[.str s, .sl 1 (ws.length + 1) (.str w :: strsV ws), .sl 1 (ws.length + 1) (.str w :: strsV ws), .iptr (.str w :: strsV ws), .str w, .bool false, .bool false, .sl 1 (ws.length + 1) (.str w :: strsV ws), .iptr (.str w :: strsV ws), .str w, .bool false, .bool false, .bool false, .sl 1 (ws.length + 1) (.str w :: strsV ws), .iptr (.str w :: strsV ws), .str w, .bool true, .bool true], ?_⟩
        simp -implicitDefEqProofs [run_seq, run_then, run_then_ret, run_then_exit, run_region, run_regionK, run_cond, run_cond_true, run_cond_false, run_block, run_block_exit, run_block_ret, run_block_normal, evCode_exit, evCode_ret, evCode_skip, evRegion_seq, run_seqs, run_seqK, evSeq_zero, run_step, run_stepO, run_stepK_true, run_stepK_false, run_stepR, wantedV, evOp, evOpR, opd, putTm, putAll, ofValue, ofScalar, binV, intOp, unV, und_p, size_p, bytesOf_p, zeroV_p, aggT_p, size3, size5, size9, size22, size24, size25, size27, size28, size29, size31, size40, size42, size47, agg3, agg5, agg9, agg22, agg24, agg25, agg27, agg28, agg29, agg31, agg40, agg42, agg47, bytesOf3, bytesOf5, bytesOf9, bytesOf42, bytesOf47, zeroV3, zeroV5, zeroV9, zeroV24, zeroV27, zeroV31, zeroV42, zeroV47, Tryd.underlying3, Tryd.underlying5, Tryd.underlying9, Tryd.underlying22, Tryd.underlying24, Tryd.underlying27, Tryd.underlying28, Tryd.underlying29, Tryd.underlying31, Tryd.underlying40, Tryd.underlying42, Tryd.underlying47, Tryd.underlying51, Tryd.underlying61, Tryd.underlying78, wrapI64, builtinV, convV, len9, len_nil, len_slz, len_sl, len_msl, slT, minV, asI, asN, ce_int, ce_str, ce_bool, ce_agg, ce_msl, ce_sl, ce_nilsl, sc_int, sc_str, sc_bool, sc_msl, sc_sl, sc_nilsl, sc_slz, fillV, splice, Heap.put, Heap.get, appendV, srcCells, cellsOf, rowOf, zerosT, isIntT, isStr, maxBytes, indexAddrV, fieldAddrV, fieldOf, sliceV, storeAt, cellsAt, takeV, partV, nextV, strOp, cfst, csnd, mapHd_some, hdS_mk, canonK_some, reach_nil, reach_cons, reachGo, clearTm, refsL, V.refs, Blk.refs, renL, V.ren, Blk.ren, indexOf, subHeap, resultsR, leaveR_some, lastK_ret, lastK_exit, fin_ret, fin_normal, leave_int, leave_bool, leave_str, run_callV, ext_p, XR_x, mut_p, callA_tuple, callB_some, callC_some, resolve_go, resolveK_nil, resolveK_cons, mergeAt, freezeRows, freezeRow, V.msls, mslsL, V.deep, deepL, V.resolve1, V.flat, flatL, c17, c34, c47, c71, evRegion_draw, drawK_some, run_cons, run_traceK, run_trace, run_trace0, run_traceN, run_traceC, B20, Tryd.f20, c40', h40, sameBytes_iff, refsL_strs, mslsL_strs, renL_strs, tm20, e1, e2, e3]
    · refine ⟨[.str s, .sl 1 (ws.length + 1) (.str w :: strsV ws), .sl 1 (ws.length + 1) (.str w :: strsV ws), .iptr (.str w :: strsV ws), .str w, .bool false, .bool false, .sl 1 (ws.length + 1) (.str w :: strsV ws), .iptr (.str w :: strsV ws), .str w, .bool true, .bool true, .bool true, .tuple [], .tuple [], .tuple [], .tuple [], .bool true], ?_⟩
      simp -implicitDefEqProofs [run_seq, run_then, run_then_ret, run_then_exit, run_region, run_regionK, run_cond, run_cond_true, run_cond_false, run_block, run_block_exit, run_block_ret, run_block_normal, evCode_exit, evCode_ret, evCode_skip, evRegion_seq, run_seqs, run_seqK, evSeq_zero, run_step, run_stepO, run_stepK_true, run_stepK_false, run_stepR, wantedV, evOp, evOpR, opd, putTm, putAll, ofValue, ofScalar, binV, intOp, unV, und_p, size_p, bytesOf_p, zeroV_p, aggT_p, size3, size5, size9, size22, size24, size25, size27, size28, size29, size31, size40, size42, size47, agg3, agg5, agg9, agg22, agg24, agg25, agg27, agg28, agg29, agg31, agg40, agg42, agg47, bytesOf3, bytesOf5, bytesOf9, bytesOf42, bytesOf47, zeroV3, zeroV5, zeroV9, zeroV24, zeroV27, zeroV31, zeroV42, zeroV47, Tryd.underlying3, Tryd.underlying5, Tryd.underlying9, Tryd.underlying22, Tryd.underlying24, Tryd.underlying27, Tryd.underlying28, Tryd.underlying29, Tryd.underlying31, Tryd.underlying40, Tryd.underlying42, Tryd.underlying47, Tryd.underlying51, Tryd.underlying61, Tryd.underlying78, wrapI64, builtinV, convV, len9, len_nil, len_slz, len_sl, len_msl, slT, minV, asI, asN, ce_int, ce_str, ce_bool, ce_agg, ce_msl, ce_sl, ce_nilsl, sc_int, sc_str, sc_bool, sc_msl, sc_sl, sc_nilsl, sc_slz, fillV, splice, Heap.put, Heap.get, appendV, srcCells, cellsOf, rowOf, zerosT, isIntT, isStr, maxBytes, indexAddrV, fieldAddrV, fieldOf, sliceV, storeAt, cellsAt, takeV, partV, nextV, strOp, cfst, csnd, mapHd_some, hdS_mk, canonK_some, reach_nil, reach_cons, reachGo, clearTm, refsL, V.refs, Blk.refs, renL, V.ren, Blk.ren, indexOf, subHeap, resultsR, leaveR_some, lastK_ret, lastK_exit, fin_ret, fin_normal, leave_int, leave_bool, leave_str, run_callV, ext_p, XR_x, mut_p, callA_tuple, callB_some, callC_some, resolve_go, resolveK_nil, resolveK_cons, mergeAt, freezeRows, freezeRow, V.msls, mslsL, V.deep, deepL, V.resolve1, V.flat, flatL, c17, c34, c47, c71, evRegion_draw, drawK_some, run_cons, run_traceK, run_trace, run_trace0, run_traceN, run_traceC, B20, Tryd.f20, c40', h40, sameBytes_iff, refsL_strs, mslsL_strs, renL_strs, tm20, e1, e2]
  · refine ⟨[.str s, .sl 1 (ws.length + 1) (.str w :: strsV ws), .sl 1 (ws.length + 1) (.str w :: strsV ws), .iptr (.str w :: strsV ws), .str w, .bool true, .bool true, .tuple [], .tuple [], .tuple [], .tuple [], .bool true, .bool true, .tuple [], .tuple [], .tuple [], .tuple [], .bool true], ?_⟩
    simp -implicitDefEqProofs [run_seq, run_then, run_then_ret, run_then_exit, run_region, run_regionK, run_cond, run_cond_true, run_cond_false, run_block, run_block_exit, run_block_ret, run_block_normal, evCode_exit, evCode_ret, evCode_skip, evRegion_seq, run_seqs, run_seqK, evSeq_zero, run_step, run_stepO, run_stepK_true, run_stepK_false, run_stepR, wantedV, evOp, evOpR, opd, putTm, putAll, ofValue, ofScalar, binV, intOp, unV, und_p, size_p, bytesOf_p, zeroV_p, aggT_p, size3, size5, size9, size22, size24, size25, size27, size28, size29, size31, size40, size42, size47, agg3, agg5, agg9, agg22, agg24, agg25, agg27, agg28, agg29, agg31, agg40, agg42, agg47, bytesOf3, bytesOf5, bytesOf9, bytesOf42, bytesOf47, zeroV3, zeroV5, zeroV9, zeroV24, zeroV27, zeroV31, zeroV42, zeroV47, Tryd.underlying3, Tryd.underlying5, Tryd.underlying9, Tryd.underlying22, Tryd.underlying24, Tryd.underlying27, Tryd.underlying28, Tryd.underlying29, Tryd.underlying31, Tryd.underlying40, Tryd.underlying42, Tryd.underlying47, Tryd.underlying51, Tryd.underlying61, Tryd.underlying78, wrapI64, builtinV, convV, len9, len_nil, len_slz, len_sl, len_msl, slT, minV, asI, asN, ce_int, ce_str, ce_bool, ce_agg, ce_msl, ce_sl, ce_nilsl, sc_int, sc_str, sc_bool, sc_msl, sc_sl, sc_nilsl, sc_slz, fillV, splice, Heap.put, Heap.get, appendV, srcCells, cellsOf, rowOf, zerosT, isIntT, isStr, maxBytes, indexAddrV, fieldAddrV, fieldOf, sliceV, storeAt, cellsAt, takeV, partV, nextV, strOp, cfst, csnd, mapHd_some, hdS_mk, canonK_some, reach_nil, reach_cons, reachGo, clearTm, refsL, V.refs, Blk.refs, renL, V.ren, Blk.ren, indexOf, subHeap, resultsR, leaveR_some, lastK_ret, lastK_exit, fin_ret, fin_normal, leave_int, leave_bool, leave_str, run_callV, ext_p, XR_x, mut_p, callA_tuple, callB_some, callC_some, resolve_go, resolveK_nil, resolveK_cons, mergeAt, freezeRows, freezeRow, V.msls, mslsL, V.deep, deepL, V.resolve1, V.flat, flatL, c17, c34, c47, c71, evRegion_draw, drawK_some, run_cons, run_traceK, run_trace, run_trace0, run_traceN, run_traceC, B20, Tryd.f20, c40', h40, sameBytes_iff, refsL_strs, mslsL_strs, renL_strs, tm20, e1]
end Go.Ev
