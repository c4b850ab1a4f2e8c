/- A part of the proof of ReportBack (the second form: what is handed in is of bulk at most 1048576): no statement of the seat's stands here. -/
import Derived.Test.YtoppmjanignfdaaDoorRa
set_option linter.unusedSectionVars false
set_option linter.unusedSimpArgs false
set_option linter.unusedVariables false
set_option linter.all false
/- Numbers as texts. -/
set_option linter.unusedVariables false
set_option linter.unusedSimpArgs false
set_option maxRecDepth 10000
namespace Go.Ev
open Go Go.Proofs

theorem XR_good : Good XR := ⟨mixed, names, fun _ => XR_ext, fun _ => XR_spec⟩
theorem XR_P : XR.P = Tryd.prog := rfl
theorem XR_s (f : FuncId) : XR.spec f = if f = 17 then some spJoin else none := rfl
theorem XR_x (f : FuncId) : XR.ext f = if f = 74 then some exIndexByte else if f = 78 then some exCountByte else none := rfl
theorem XR_k (f : FuncId) : XR.keepRes f = false := rfl
theorem XR_m (f : FuncId) : XR.mutArgs f = false := rfl
theorem XR_l (f : FuncId) : XR.keepSlots f = [] := rfl
theorem hook_P (X : Ctx) (f F) : (X.hook f F).P = X.P := rfl
theorem hook_s (X : Ctx) (f F) (g : FuncId) : (X.hook f F).spec g = if g = f then some F else X.spec g := rfl
theorem hook_x (X : Ctx) (f F) (g : FuncId) : (X.hook f F).ext g = X.ext g := rfl
theorem hook_k (X : Ctx) (f F) (g : FuncId) : (X.hook f F).keepRes g = X.keepRes g := rfl
theorem hook_m (X : Ctx) (f F) (g : FuncId) : (X.hook f F).mutArgs g = X.mutArgs g := rfl
theorem hook_l (X : Ctx) (f F) (g : FuncId) : (X.hook f F).keepSlots g = X.keepSlots g := rfl
theorem und_XR (t : TypeId) : und XR t = Tryd.prog.underlying t := rfl
theorem und_hook (X : Ctx) (f F) (t : TypeId) : und (X.hook f F) t = und X t := rfl
theorem size_hook (X : Ctx) (f F) (t : TypeId) : size (X.hook f F) t = size X t := rfl
theorem bytesOf_hook (X : Ctx) (f F) (t : TypeId) : bytesOf (X.hook f F) t = bytesOf X t := rfl
theorem zeroV_hook (X : Ctx) (f F) (t : TypeId) : zeroV (X.hook f F) t = zeroV X t := rfl
theorem size5 : size XR 5 = some 1 := by kernel_rfl
theorem bytesOf5 : bytesOf XR 5 = some 1 := by kernel_rfl
theorem zeroV5 : zeroV XR 5 = some (.int .u8 0) := by kernel_rfl
theorem u40 : Tryd.prog.underlying 40 = some (.slice 5) := by kernel_rfl
theorem u9 : Tryd.prog.underlying 9 = some .string := by kernel_rfl

theorem wrapU64 (n : Int) : IntKind.u64.wrap n = n % 18446744073709551616 := by simp [IntKind.wrap, IntKind.bits, IntKind.signed]
theorem wrapU8 (n : Int) : IntKind.u8.wrap n = n % 256 := by simp [IntKind.wrap, IntKind.bits, IntKind.signed]

/-- What a frame leaves behind where its result leans on nothing. -/
theorem leave_flat {X : Ctx} {f : FuncId} {r : V} (h1 : r.msls = []) (h2 : r.refs = []) (H : Heap) : leave X f 0 r H = (r, []) ∨ leave X f 0 r H = (r.ren (indexOf · [] 0), []) := by
  have hres : (if X.keepRes f = true then (r, []) else resolve H 6 r) = (r, ([] : List Nat)) := by
    split
    · rfl
    · unfold resolve; rw [h1]
  have hrl : refsL [r] = [] := by simp [refsL, h2]
  unfold leave
  rw [hres]
  simp only [freezeRows, List.foldl_nil, canon, List.range_zero, List.nil_append, hrl, reach, List.isEmpty_nil, if_true, List.filter_nil]
  by_cases hH : H = []
  · left; simp [hH]
  · right
    have : ¬ (H.length = 0) := by simpa using hH
    simp [this, renL, subHeap]
theorem leave_int {X : Ctx} {f : FuncId} (k : IntKind) (n : Int) (H : Heap) : leave X f 0 (.int k n) H = (.int k n, []) := by
  rcases leave_flat (X := X) (f := f) (r := .int k n) (by simp [V.msls]) (by simp [V.refs]) H with h | h <;> rw [h]
  unfold V.ren; rfl
theorem leave_bool {X : Ctx} {f : FuncId} (b : Bool) (H : Heap) : leave X f 0 (.bool b) H = (.bool b, []) := by
  rcases leave_flat (X := X) (f := f) (r := .bool b) (by simp [V.msls]) (by simp [V.refs]) H with h | h <;> rw [h]
  unfold V.ren; rfl
theorem leave_str {X : Ctx} {f : FuncId} (s : List UInt8) (H : Heap) : leave X f 0 (.str s) H = (.str s, []) := by
  rcases leave_flat (X := X) (f := f) (r := .str s) (by simp [V.msls]) (by simp [V.refs]) H with h | h <;> rw [h]
  unfold V.ren; rfl

/- letter -/
def letterB (n : Int) : Int := if n < 10 then 48 + n else 87 + n
theorem letter_ev (m : Nat) (n : Int) (h0 : 0 ≤ n) (h1 : n < 16) : evCall XR (m + 20) 48 [.int .u64 n] [] = some (.int .u8 (letterB n), []) := by
  unfold letterB
  by_cases h : n < 10
  · simp [evCall, callWith, run_seq, run_then, run_then_ret, run_then_exit, run_region, run_regionK, run_cond, run_cond_true, run_cond_false, run_block, run_block_exit, run_block_ret, run_block_normal, evCode_exit, evCode_ret, evCode_skip, evRegion_seq, run_seqs, run_seqK, evSeq_zero, run_step, run_stepO, run_stepK_true, run_stepK_false, run_stepR, wantedV, evOp, evOpR, opd, putTm, putAll, ofValue, ofScalar, binV, intOp, unV, resultsV, XR_P, XR_s, Tryd.func48, Tryd.f48, convV, und_XR, Tryd.underlying5, Tryd.underlying61, h, leave_int, wrapU64, wrapU8]
    omega
  · simp [evCall, callWith, run_seq, run_then, run_then_ret, run_then_exit, run_region, run_regionK, run_cond, run_cond_true, run_cond_false, run_block, run_block_exit, run_block_ret, run_block_normal, evCode_exit, evCode_ret, evCode_skip, evRegion_seq, run_seqs, run_seqK, evSeq_zero, run_step, run_stepO, run_stepK_true, run_stepK_false, run_stepR, wantedV, evOp, evOpR, opd, putTm, putAll, ofValue, ofScalar, binV, intOp, unV, resultsV, XR_P, XR_s, Tryd.func48, Tryd.f48, convV, und_XR, Tryd.underlying5, Tryd.underlying61, h, leave_int, wrapU64, wrapU8]
    omega
def F48 (args : List V) (H : Heap) : Option (V × Heap) := match args, H with
  | [.int .u64 n], [] => if 0 ≤ n ∧ n < 16 then some (.int .u8 (letterB n), []) else none
  | _, _ => none
noncomputable def X1 : Ctx := XR.hook 48 F48
theorem X1_good : Good X1 := XR_good.hook fun args H r H' h => by
  unfold F48 at h
  split at h
  · split at h
    · rename_i n hn
      cases h
      exact ⟨20, letter_ev 0 n hn.1 hn.2⟩
    · cases h
  · cases h
end Go.Ev
set_option linter.unusedVariables false
set_option linter.unusedSimpArgs false
set_option maxRecDepth 10000
namespace Go.Ev
open Go Go.Proofs
def bytesI (l : List Int) : List V := l.map fun n => .int .u8 n
theorem refsL_bytes : ∀ l : List Int, refsL (bytesI l) = []
  | [] => by simp [bytesI, refsL]
  | x :: r => by
    have := refsL_bytes r
    simp only [bytesI] at this
    simp [bytesI, refsL, V.refs, this]
theorem renL_bytes (m : Nat → Option Nat) : ∀ l : List Int, renL m (bytesI l) = bytesI l
  | [] => by simp [bytesI, renL]
  | x :: r => by
    have := renL_bytes m r
    simp only [bytesI] at this
    simp [bytesI, renL, V.ren, this]
theorem bytesI_len (l : List Int) : (bytesI l).length = l.length := by simp [bytesI]
theorem bytesI_scalar (l : List Int) : (bytesI l).all V.scalar = true := by simp [bytesI, V.scalar]
def cfst : Code → Code
  | .seq a _ => a | .cond _ a _ => a | .block _ c => c | .loop c => c | .scope c => c | _ => .skip
def csnd : Code → Code
  | .seq _ b => b | .cond _ _ b => b | _ => .skip
noncomputable def putBody : Code := cfst (cfst (csnd (csnd (Tryd.f47.body.getD .skip))))
theorem put_shape : Tryd.f47.body = some (.seq (cfst (Tryd.f47.body.getD .skip)) (.seq (cfst (csnd (Tryd.f47.body.getD .skip))) (.block 0 (.loop putBody)))) := by kernel_rfl
def putSt (n base : Int) (b : V) (H : Heap) : St := ⟨[.int .u64 n, .int .u64 base, .dead, .dead, .dead, b] ++ List.replicate 14 .dead, H⟩
theorem X1_l (f) : X1.keepSlots f = [] := rfl
theorem call48 {rec : FuncId → Nat → Code → St → Option (Ex × St)} {fresh : Nat → Nat} {H : Heap} {n : Int} (h0 : 0 ≤ n) (h1 : n < 16) :
    callV X1 (callWith X1 rec) 48 [.int .u64 n] fresh H = some { v := .int .u8 (letterB n) } :=
  callV_flat rfl (by simp [mslsL, V.msls]) (by simp [refsL, V.refs]) (by simp [callWith, X1, hook_s, F48, h0, h1]) (by simp [V.flat])
theorem X1_P : X1.P = Tryd.prog := rfl
theorem und_X1 (t : TypeId) : und X1 t = Tryd.prog.underlying t := rfl
theorem size_X1 (t : TypeId) : size X1 t = size XR t := rfl
theorem bytesOf_X1 (t : TypeId) : bytesOf X1 t = bytesOf XR t := rfl
theorem zeroV_X1 (t : TypeId) : zeroV X1 t = zeroV XR t := rfl

theorem take_bytes (ds : List Int) : (bytesI ds).take ds.length = bytesI ds := List.take_of_length_le (by simp [bytesI])
theorem noScalar (ds : List Int) : (∃ x, x ∈ bytesI ds ∧ x.scalar = false) = False := by
  simp [bytesI, V.scalar]
theorem strV_bytes : ∀ ds : List Int, strV (bytesI ds) = some (ds.map fun n => UInt8.ofNat n.toNat)
  | [] => rfl
  | x :: r => by
    have := strV_bytes r
    simp only [bytesI] at this
    simp [bytesI, strV, this]
theorem bytesI_cons (x : Int) (r : List Int) : V.int .u8 x :: bytesI r = bytesI (x :: r) := rfl
def bOf (ds : List Int) : V := if ds.isEmpty then .nilsl else .msl 0 1 0 1 ds.length
def hOf (ds : List Int) : Heap := if ds.isEmpty then [] else [some (.row (bytesI ds) true 1)]
theorem put_last (m : Nat) (n base : Int) (ds : List Int) (hds : ds.length ≤ 100) (h0 : 0 ≤ n) (hb : base = 10 ∨ base = 16) (hq : n.tdiv base = 0) :
    (evCode X1 (m + 20) 47 0 putBody (putSt n base (bOf ds) (hOf ds))).map (fun r => (r.1, r.2.tm[4]?)) = some (.ret, some (.str ((letterB (n.tmod base) :: ds).map fun n => UInt8.ofNat n.toNat))) := by
  have hp : 0 < base := by omega
  have hl : n.tmod base < 16 := by have := Int.tmod_lt_of_pos n hp; omega
  have hl0 : 0 ≤ n.tmod base := Int.tmod_nonneg _ h0
  have hne : base ≠ 0 := by omega
  have hbig : 2 * (1 + ds.length) ≤ 70368744176664 := by omega
  cases ds with
  | nil =>
    simp [bOf, hOf, putBody, putSt, Tryd.f47, cfst, csnd, evCall, callWith, run_seq, run_then, run_then_ret, run_then_exit, run_region, run_regionK, run_cond, run_cond_true, run_cond_false, run_block, run_block_exit, run_block_ret, run_block_normal, evCode_exit, evCode_ret, evCode_skip, evRegion_seq, run_seqs, run_seqK, evSeq_zero, run_step, run_stepO, run_stepK_true, run_stepK_false, run_stepR, wantedV, evOp, evOpR, opd, putTm, putAll, ofValue, ofScalar, binV, intOp, unV, resultsV, call48, und_X1, size_X1, zeroV_X1, bytesOf_X1, size5, zeroV5, bytesOf5, u40, u9, Tryd.underlying61, Tryd.underlying5, h0, hl, hl0, hq, hne, wrapU64, builtinV, convV, ce_int, sc_int, fillV, splice, Heap.put, Heap.get, appendV, srcCells, cellsOf, rowOf, zerosT, isIntT, isStr, maxBytes, strV]
  | cons d r =>
    have hbig' : 2 * (r.length + 1 + 1) ≤ 70368744176664 := by simp only [List.length_cons] at hbig; omega
    have e3 : 1 + (r.length + 1) = r.length + 1 + 1 := by omega
    have ht := take_bytes (d :: r)
    have hlen := bytesI_len (d :: r)
    have hns := noScalar (d :: r)
    have hsv := strV_bytes (d :: r)
    simp only [List.length_cons] at ht hlen
    simp [bOf, hOf, putBody, putSt, Tryd.f47, cfst, csnd, evCall, callWith, run_seq, run_then, run_then_ret, run_then_exit, run_region, run_regionK, run_cond, run_cond_true, run_cond_false, run_block, run_block_exit, run_block_ret, run_block_normal, evCode_exit, evCode_ret, evCode_skip, evRegion_seq, run_seqs, run_seqK, evSeq_zero, run_step, run_stepO, run_stepK_true, run_stepK_false, run_stepR, wantedV, evOp, evOpR, opd, putTm, putAll, ofValue, ofScalar, binV, intOp, unV, resultsV, call48, und_X1, size_X1, zeroV_X1, bytesOf_X1, size5, zeroV5, bytesOf5, u40, u9, Tryd.underlying61, Tryd.underlying5, h0, hl, hl0, hq, hne, wrapU64, builtinV, convV, ce_int, sc_int, fillV, splice, Heap.put, Heap.get, appendV, srcCells, cellsOf, rowOf, zerosT, isIntT, isStr, maxBytes, strV, ht, hlen, hns, hsv, hbig', e3]
theorem put_clears : clears (X1.keepSlots 47) putBody = [4, 19, 18, 17, 16, 15, 14, 13, 12, 11, 10, 9, 8, 7, 6] := by kernel_rfl
theorem reach_one {H : Heap} {b : Nat} {x : Blk} (hx : H.get b = some x) (hr : x.refs = []) : reach H [b] = some [b] := by
  simp only [reach, List.isEmpty_cons, Bool.false_eq_true, if_false]
  show reachGo H (9998 + 2) [b] [] = some [b]
  simp [reachGo, hx, hr]
theorem canon_zero {tm : List V} {H : Heap} {l : List Nat} (h : reach H (refsL tm) = some l) : canon 0 tm H = if H.length = l.length ∧ l = List.range l.length then (tm, H) else (renL (indexOf · l 0) tm, subHeap H l) := by
  have hf : List.filter (fun b => true) l = l := List.filter_eq_self.2 (by simp)
  simp [canon, h, hf]
theorem canon_one {tm : List V} {H : Heap} {b : Nat} {cs : List V} {mu : Bool} {ver : Nat} (ht : refsL tm = [b]) (hx : H.get b = some (.row cs mu ver)) (hr : refsL cs = []) :
    canon 0 tm H = (renL (indexOf · [b] 0) tm, [some (.row cs mu ver)]) ∨ (canon 0 tm H = (tm, H) ∧ H = [some (.row cs mu ver)] ∧ b = 0) := by
  have h1 := reach_one hx (by simpa [Blk.refs] using hr)
  rw [canon_zero (l := [b]) (by rw [ht]; exact h1)]
  by_cases hc : H.length = [b].length ∧ [b] = List.range [b].length
  · rw [if_pos hc]
    right
    obtain ⟨hl, hb⟩ := hc
    have hb : b = 0 := by simpa [List.range_succ] using hb
    subst hb
    refine ⟨rfl, ?_, rfl⟩
    cases H with
    | nil => simp at hl
    | cons y r =>
      cases r with
      | nil => simp [Heap.get] at hx; rw [hx]
      | cons _ _ => simp at hl
  · rw [if_neg hc]
    left
    simp [subHeap, hx, Blk.ren, renL_id _ _ hr]
theorem head_put {tm : List V} {H : Heap} {b : Nat} {cs : List V} {mu : Bool} {ver : Nat} (ht : refsL (clearTm [4, 19, 18, 17, 16, 15, 14, 13, 12, 11, 10, 9, 8, 7, 6] tm) = [b]) (hb : b ≠ 0) (hx : H.get b = some (.row cs mu ver)) (hr : refsL cs = []) :
    head X1 47 0 putBody ⟨tm, H⟩ = ⟨renL (indexOf · [b] 0) (clearTm [4, 19, 18, 17, 16, 15, 14, 13, 12, 11, 10, 9, 8, 7, 6] tm), [some (.row cs mu ver)]⟩ := by
  unfold head
  rw [put_clears]
  rcases canon_one ht hx hr with h | ⟨_, _, h⟩
  · simp only; rw [h]
  · exact absurd h hb
def putEnd (n base : Int) (ds : List Int) : St :=
  ⟨[.int .u64 (n.tdiv base), .int .u64 base, .dead, .dead, .dead, .msl (hOf ds).length 1 0 1 (ds.length + 1), .int .u64 n, .int .u64 base, .int .u64 (n.tmod base), .int .u8 (letterB (n.tmod base)), .msl (hOf ds).length 0 0 1 1, bOf ds,
    .msl (hOf ds).length 1 0 1 (ds.length + 1), .int .u64 n, .int .u64 base, .int .u64 (n.tdiv base), .int .u64 (n.tdiv base), .bool false, .dead, .dead], hOf ds ++ [some (.row (.int .u8 (letterB (n.tmod base)) :: bytesI ds) true 1)]⟩
theorem put_next (m : Nat) (n base : Int) (ds : List Int) (hds : ds.length ≤ 100) (h0 : 0 ≤ n) (h64 : n < 18446744073709551616) (hb : base = 10 ∨ base = 16) (hq : ¬ n.tdiv base = 0) (g : St → St) :
    (evCode X1 (m + 20) 47 0 putBody (putSt n base (bOf ds) (hOf ds))).map (fun r => (r.1, g r.2)) = some (.normal, g (putEnd n base ds)) := by
  have hp : 0 < base := by omega
  have hl : n.tmod base < 16 := by have := Int.tmod_lt_of_pos n hp; omega
  have hl0 : 0 ≤ n.tmod base := Int.tmod_nonneg _ h0
  have hne : base ≠ 0 := by omega
  have hw : n.tdiv base % 18446744073709551616 = n.tdiv base := by
    have h1 : 0 ≤ n.tdiv base := Int.tdiv_nonneg h0 (by omega)
    have h2 : n.tdiv base ≤ n := by
      rw [Int.tdiv_eq_ediv_of_nonneg h0]
      exact Int.ediv_le_self _ h0
    omega
  have hbig : 2 * (1 + ds.length) ≤ 70368744176664 := by omega
  cases ds with
  | nil =>
    simp [putBody, Tryd.f47, putEnd, bytesI, bOf, hOf, putSt, cfst, csnd, evCall, callWith, run_seq, run_then, run_then_ret, run_then_exit, run_region, run_regionK, run_cond, run_cond_true, run_cond_false, run_block, run_block_exit, run_block_ret, run_block_normal, evCode_exit, evCode_ret, evCode_skip, evRegion_seq, run_seqs, run_seqK, evSeq_zero, run_step, run_stepO, run_stepK_true, run_stepK_false, run_stepR, wantedV, evOp, evOpR, opd, putTm, putAll, ofValue, ofScalar, binV, intOp, unV, resultsV, call48, und_X1, size_X1, zeroV_X1, bytesOf_X1, size5, zeroV5, bytesOf5, u40, u9, Tryd.underlying61, Tryd.underlying5, h0, hl, hl0, hq, hne, wrapU64, builtinV, convV, ce_int, sc_int, fillV, splice, Heap.put, Heap.get, appendV, srcCells, cellsOf, rowOf, zerosT, isIntT, isStr, maxBytes, strV, hw]
  | cons d r =>
    have hbig' : 2 * (r.length + 1 + 1) ≤ 70368744176664 := by simp only [List.length_cons] at hbig; omega
    have e3 : 1 + (r.length + 1) = r.length + 1 + 1 := by omega
    have ht := take_bytes (d :: r)
    have hlen := bytesI_len (d :: r)
    have hns := noScalar (d :: r)
    have hsv := strV_bytes (d :: r)
    simp only [List.length_cons] at ht hlen
    simp [putBody, Tryd.f47, putEnd, bOf, hOf, putSt, cfst, csnd, evCall, callWith, run_seq, run_then, run_then_ret, run_then_exit, run_region, run_regionK, run_cond, run_cond_true, run_cond_false, run_block, run_block_exit, run_block_ret, run_block_normal, evCode_exit, evCode_ret, evCode_skip, evRegion_seq, run_seqs, run_seqK, evSeq_zero, run_step, run_stepO, run_stepK_true, run_stepK_false, run_stepR, wantedV, evOp, evOpR, opd, putTm, putAll, ofValue, ofScalar, binV, intOp, unV, resultsV, call48, und_X1, size_X1, zeroV_X1, bytesOf_X1, size5, zeroV5, bytesOf5, u40, u9, Tryd.underlying61, Tryd.underlying5, h0, hl, hl0, hq, hne, wrapU64, builtinV, convV, ce_int, sc_int, fillV, splice, Heap.put, Heap.get, appendV, srcCells, cellsOf, rowOf, zerosT, isIntT, isStr, maxBytes, strV, hw, ht, hlen, hns, hsv, hbig', e3]
theorem head_end (n base : Int) (ds : List Int) : head X1 47 0 putBody (putEnd n base ds) = putSt (n.tdiv base) base (bOf (letterB (n.tmod base) :: ds)) (hOf (letterB (n.tmod base) :: ds)) := by
  unfold head
  rw [put_clears]
  cases ds with
  | nil =>
    have h := canon_one (tm := clearTm [4, 19, 18, 17, 16, 15, 14, 13, 12, 11, 10, 9, 8, 7, 6] (putEnd n base []).tm) (H := (putEnd n base []).H) (b := 0) (cs := bytesI [letterB (n.tmod base)]) (mu := true) (ver := 1)
      (by simp [clearTm, putEnd, refsL, V.refs, hOf]) (by simp [putEnd, hOf, Heap.get, bytesI]) (refsL_bytes _)
    rcases h with h | ⟨h, _, _⟩
    · simp only [h]
      simp [clearTm, putEnd, renL, V.ren, indexOf, putSt, bOf, hOf]
    · simp only [h]
      simp [clearTm, putEnd, putSt, bOf, hOf, bytesI]
  | cons d r =>
    have h := canon_one (tm := clearTm [4, 19, 18, 17, 16, 15, 14, 13, 12, 11, 10, 9, 8, 7, 6] (putEnd n base (d :: r)).tm) (H := (putEnd n base (d :: r)).H) (b := 1) (cs := bytesI (letterB (n.tmod base) :: d :: r)) (mu := true) (ver := 1)
      (by simp [clearTm, putEnd, refsL, V.refs, hOf]) (by simp [putEnd, hOf, Heap.get, bytesI]) (refsL_bytes _)
    rcases h with h | ⟨_, _, h⟩
    · simp only [h]
      simp [clearTm, putEnd, renL, V.ren, indexOf, putSt, bOf, hOf]
    · cases h
def putL (base : Int) : Nat → Int → List Int → List Int
  | 0, n, ds => letterB (n.tmod base) :: ds
  | k + 1, n, ds => if n.tdiv base = 0 then letterB (n.tmod base) :: ds else putL base k (n.tdiv base) (letterB (n.tmod base) :: ds)
theorem put_loop (base : Int) (hb : base = 10 ∨ base = 16) : ∀ (k : Nat) (n : Int) (ds : List Int) (st : St), head X1 47 0 putBody st = putSt n base (bOf ds) (hOf ds) → 0 ≤ n → n < 2 ^ (k + 1) → n < 18446744073709551616 → ds.length + k ≤ 100 →
    (evCode X1 (k + 20 + 1) 47 0 (.loop putBody) st).map (fun r => (r.1, r.2.tm[4]?)) = some (.ret, some (.str ((putL base k n ds).map fun n => UInt8.ofNat n.toNat))) := by
  intro k
  induction k with
  | zero =>
    intro n ds st hs h0 hk h64 hl
    have hq : n.tdiv base = 0 := by
      rw [Int.tdiv_eq_ediv_of_nonneg h0]
      exact Int.ediv_eq_zero_of_lt h0 (by simp at hk; omega)
    have := put_last 0 n base ds (by omega) h0 hb hq
    exact loop_last (g := fun st => st.tm[4]?) (ex := .ret) (n := 0 + 20) hs (by simp) this
  | succ k ih =>
    intro n ds st hs h0 hk h64 hl
    have e : k + 1 + 20 = k + 20 + 1 := by omega
    unfold putL
    by_cases hq : n.tdiv base = 0
    · rw [if_pos hq]
      have := put_last (k + 1) n base ds (by omega) h0 hb hq
      exact loop_last (g := fun st => st.tm[4]?) (ex := .ret) (n := k + 1 + 20) hs (by simp) this
    · rw [if_neg hq]
      have hq0 : 0 ≤ n.tdiv base := Int.tdiv_nonneg h0 (by omega)
      have hql : n.tdiv base < 2 ^ (k + 1) := by
        rw [Int.tdiv_eq_ediv_of_nonneg h0]
        have h2 : (2 : Int) ^ (k + 1 + 1) = 2 * 2 ^ (k + 1) := by rw [Int.pow_succ, Int.mul_comm]
        generalize (2 : Int) ^ (k + 1) = p at *
        rcases hb with rfl | rfl <;> omega
      have hq64 : n.tdiv base < 18446744073709551616 := by
        rw [Int.tdiv_eq_ediv_of_nonneg h0]
        rcases hb with rfl | rfl <;> omega
      have hnext := put_next (k + 1) n base ds (by omega) h0 h64 hb hq (head X1 47 0 putBody)
      have hend := head_end n base ds
      refine loop_round (proj := fun r => (r.1, r.2.tm[4]?)) (n := k + 1 + 20) (S' := putSt (n.tdiv base) base (bOf (letterB (n.tmod base) :: ds)) (hOf (letterB (n.tmod base) :: ds))) hs (hnext.trans (by rw [hend])) fun st' hst' => ?_
      rw [e]
      exact ih (n.tdiv base) (letterB (n.tmod base) :: ds) st' hst' hq0 hql hq64 (by simp; omega)
theorem put_start (n base : Int) : head X1 47 0 putBody ⟨[.int .u64 n, .int .u64 base, .dead, .dead, .str [], .nilsl, .dead, .dead, .dead, .dead, .dead, .dead, .dead, .dead, .dead, .dead, .dead, .dead, .dead, .dead], []⟩ = putSt n base (bOf []) (hOf []) := by
  unfold head
  rw [put_clears]
  have h := canon_zero (tm := clearTm [4, 19, 18, 17, 16, 15, 14, 13, 12, 11, 10, 9, 8, 7, 6] [.int .u64 n, .int .u64 base, .dead, .dead, .str [], .nilsl, .dead, .dead, .dead, .dead, .dead, .dead, .dead, .dead, .dead, .dead, .dead, .dead, .dead, .dead]) (H := []) (l := []) (by simp [clearTm, refsL, V.refs, reach])
  simp only [h]
  simp [clearTm, putSt, bOf, hOf]
def digitsB (base n : Int) : List UInt8 := (putL base 63 n []).map fun n => UInt8.ofNat n.toNat
theorem put_ev (n base : Int) (hb : base = 10 ∨ base = 16) (h0 : 0 ≤ n) (h64 : n < 18446744073709551616) : evCall X1 87 47 [.int .u64 n, .int .u64 base] [] = some (.str (digitsB base n), []) := by
  have hl := put_loop base hb 63 n [] _ (put_start n base) h0 (by simpa using h64) h64 (by simp)
  obtain ⟨⟨ex, stf⟩, h1, h2⟩ := Option.map_eq_some_iff.1 hl
  simp only [Prod.mk.injEq] at h2
  obtain ⟨rfl, h2⟩ := h2
  have h1' : evCode X1 84 47 0 (.loop putBody) ⟨[.int .u64 n, .int .u64 base, .dead, .dead, .str [], .nilsl, .dead, .dead, .dead, .dead, .dead, .dead, .dead, .dead, .dead, .dead, .dead, .dead, .dead, .dead], []⟩ = some (.ret, stf) := h1
  have hc : evCode X1 87 47 0 (.seq (cfst (Tryd.f47.body.getD .skip)) (.seq (cfst (csnd (Tryd.f47.body.getD .skip))) (.block 0 (.loop putBody)))) ⟨[.int .u64 n, .int .u64 base] ++ List.replicate (Tryd.f47.ntmps - 2) .dead, []⟩ = some (.ret, stf) := by
    simp [Tryd.f47, cfst, csnd, evCall, callWith, run_seq, run_then, run_then_ret, run_then_exit, run_region, run_regionK, run_cond, run_cond_true, run_cond_false, run_block, run_block_exit, run_block_ret, run_block_normal, evCode_exit, evCode_ret, evCode_skip, evRegion_seq, run_seqs, run_seqK, evSeq_zero, run_step, run_stepO, run_stepK_true, run_stepK_false, run_stepR, wantedV, evOp, evOpR, opd, putTm, putAll, ofValue, ofScalar, binV, intOp, unV, resultsV, h1']
  have hr : resultsV X1 Tryd.f47 stf.tm stf.H = some (.str (digitsB base n)) := by
    simp [resultsV, Tryd.f47, h2, digitsB]
  have := evCall_body (X := X1) (n := 87) (f := 47) (args := [.int .u64 n, .int .u64 base]) (H := []) rfl Tryd.func47 put_shape hc (.inr rfl) hr
  rw [this]
  exact congrArg some (leave_str _ _)
def F47 (args : List V) (H : Heap) : Option (V × Heap) := match args, H with
  | [.int .u64 n, .int .u64 base], [] => if (base = 10 ∨ base = 16) ∧ 0 ≤ n ∧ n < 18446744073709551616 then some (.str (digitsB base n), []) else none
  | _, _ => none
noncomputable def X2 : Ctx := X1.hook 47 F47
theorem X2_good : Good X2 := X1_good.hook fun args H r H' h => by
  unfold F47 at h
  split at h
  · split at h
    · rename_i n base hn
      cases h
      exact ⟨87, put_ev n base hn.1 hn.2.1 hn.2.2⟩
    · cases h
  · cases h
end Go.Ev
set_option linter.unusedVariables false
set_option linter.unusedSimpArgs false
set_option maxRecDepth 10000
namespace Go.Ev
open Go Go.Proofs
noncomputable def bytB : Code := Tryd.f34.body.getD .skip
noncomputable def bytLoop : Code := cfst (cfst (csnd (cfst (csnd (csnd bytB)))))
theorem X2_l (f) : X2.keepSlots f = [] := rfl
theorem byt_shape : Tryd.f34.body = some (.seq (cfst bytB) (.seq (cfst (csnd bytB)) (.seq (.seq (cfst (cfst (csnd (csnd bytB)))) (.block 0 (.loop bytLoop))) (csnd (csnd (csnd bytB)))))) := by kernel_rfl
theorem call48' {rec : FuncId → Nat → Code → St → Option (Ex × St)} {fresh : Nat → Nat} {H : Heap} {n : Int} (h0 : 0 ≤ n) (h1 : n < 16) :
    callV X2 (callWith X2 rec) 48 [.int .u64 n] fresh H = some { v := .int .u8 (letterB n) } :=
  callV_flat rfl (by simp [mslsL, V.msls]) (by simp [refsL, V.refs]) (by simp [callWith, X2, X1, hook_s, F48, h0, h1]) (by simp [V.flat])
theorem und_X2 (t : TypeId) : und X2 t = Tryd.prog.underlying t := rfl
theorem size_X2 (t : TypeId) : size X2 t = size XR t := rfl
theorem bytesOf_X2 (t : TypeId) : bytesOf X2 t = bytesOf XR t := rfl
theorem zeroV_X2 (t : TypeId) : zeroV X2 t = zeroV XR t := rfl
theorem u3 : Tryd.prog.underlying 3 = some (.int .i64) := by kernel_rfl
theorem agg5 : aggT XR 5 = some false := by kernel_rfl
theorem aggT_X2 (t : TypeId) : aggT X2 t = aggT XR t := rfl
theorem reach_two {H : Heap} {b : Nat} {x : Blk} (hx : H.get b = some x) (hr : x.refs = []) : reach H [b, b] = some [b] := by
  simp only [reach, List.isEmpty_cons, Bool.false_eq_true, if_false]
  show reachGo H (9997 + 3) [b, b] [] = some [b]
  simp [reachGo, hx, hr]
theorem canon_two {tm : List V} {H : Heap} {b : Nat} {cs : List V} {mu : Bool} {ver : Nat} (ht : refsL tm = [b, b]) (hx : H.get b = some (.row cs mu ver)) (hr : refsL cs = []) :
    canon 0 tm H = (renL (indexOf · [b] 0) tm, [some (.row cs mu ver)]) ∨ (canon 0 tm H = (tm, H) ∧ H = [some (.row cs mu ver)] ∧ b = 0) := by
  have h1 := reach_two hx (by simpa [Blk.refs] using hr)
  rw [canon_zero (l := [b]) (by rw [ht]; exact h1)]
  by_cases hc : H.length = [b].length ∧ [b] = List.range [b].length
  · rw [if_pos hc]
    right
    obtain ⟨hl, hb⟩ := hc
    have hb : b = 0 := by simpa [List.range_succ] using hb
    subst hb
    refine ⟨rfl, ?_, rfl⟩
    cases H with
    | nil => simp at hl
    | cons y r =>
      cases r with
      | nil => simp [Heap.get] at hx; rw [hx]
      | cons _ _ => simp at hl
  · rw [if_neg hc]
    left
    simp [subHeap, hx, Blk.ren, renL_id _ _ hr]
theorem byt_clears : clears (X2.keepSlots 34) bytLoop = [27, 26, 25, 24, 23, 22, 21, 20, 19, 18, 17, 16, 5, 15, 14, 13] := by kernel_rfl
def bytSt (bs hs : List Int) (ver i : Nat) : St :=
  ⟨[.sl 1 bs.length (bytesI bs), .dead, .str [], .msl 0 ver 0 1 hs.length, .dead, .dead, .sl 1 bs.length (bytesI bs), .int .i64 bs.length, .int .i64 (2 * bs.length), .msl 0 0 0 1 0, .sl 1 bs.length (bytesI bs), .int .i64 bs.length, .int .i64 i] ++ List.replicate 17 .dead, [some (.row (bytesI hs) true ver)]⟩
def bytEnd (bs hs : List Int) (ver i : Nat) (x : Int) : St :=
  ⟨[.sl 1 bs.length (bytesI bs), .dead, .str [], .msl 0 (ver + 1) 0 1 (hs.length + 2), .dead, .int .u8 x, .sl 1 bs.length (bytesI bs), .int .i64 bs.length, .int .i64 (2 * bs.length), .msl 0 0 0 1 0, .sl 1 bs.length (bytesI bs), .int .i64 bs.length, .int .i64 (i + 1), .bool true,
    .iptr (.int .u8 x :: (bytesI bs).drop (i + 1)), .int .u8 x, .msl 0 ver 0 1 hs.length, .int .u8 x, .int .u8 (x / 16), .int .u64 (x / 16), .int .u8 (letterB (x / 16)), .int .u8 x, .int .u8 (x % 16), .int .u64 (x % 16), .int .u8 (letterB (x % 16)),
    .msl 1 0 0 1 2, .msl 0 (ver + 1) 0 1 (hs.length + 2), .int .i64 (i + 1), .dead, .dead],
   [some (.row (bytesI hs ++ [.int .u8 (letterB (x / 16)), .int .u8 (letterB (x % 16))]) true (ver + 1)), some (.row [.int .u8 (letterB (x / 16)), .int .u8 (letterB (x % 16))] true 0)]⟩
theorem byt_next (m : Nat) (bs hs : List Int) (ver i : Nat) (x : Int) (hi : i < bs.length) (hlen64 : bs.length < 4611686018427387904) (hx : (bytesI bs).drop i = .int .u8 x :: (bytesI bs).drop (i + 1)) (h0 : 0 ≤ x) (h1 : x < 256) (hh : hs.length ≤ 1000000000000) (g : St → St) :
    (evCode X2 (m + 20) 34 0 bytLoop (bytSt bs hs ver i)).map (fun r => (r.1, g r.2)) = some (.normal, g (bytEnd bs hs ver i x)) := by
  have hq : x.tdiv 16 = x / 16 := Int.tdiv_eq_ediv_of_nonneg h0
  have hr : x.tmod 16 = x % 16 := Int.tmod_eq_emod_of_nonneg h0
  have q0 : 0 ≤ x / 16 := by omega
  have q1 : x / 16 < 16 := by omega
  have r0 : 0 ≤ x % 16 := by omega
  have r1 : x % 16 < 16 := by omega
  have w1 : x / 16 % 256 = x / 16 := by omega
  have w2 : x / 16 % 18446744073709551616 = x / 16 := by omega
  have w3 : x % 16 % 18446744073709551616 = x % 16 := by omega
  have hbig : 2 * (hs.length + 2) ≤ 70368744176664 := by omega
  have wI : IntKind.i64.wrap ((i : Int) + 1) = (i : Int) + 1 := by simp [IntKind.wrap, IntKind.bits, IntKind.signed]; omega
  have hi' : (i : Int) < bs.length := by omega
  have ht := take_bytes hs
  have hlen := bytesI_len hs
  have hns := noScalar hs
  simp [bytLoop, bytB, bytSt, Tryd.f34, cfst, csnd, evCall, callWith, run_seq, run_then, run_then_ret, run_then_exit, run_region, run_regionK, run_cond, run_cond_true, run_cond_false, run_block, run_block_exit, run_block_ret, run_block_normal, evCode_exit, evCode_ret, evCode_skip, evRegion_seq, run_seqs, run_seqK, evSeq_zero, run_step, run_stepO, run_stepK_true, run_stepK_false, run_stepR, wantedV, evOp, evOpR, opd, putTm, putAll, ofValue, ofScalar, binV, intOp, unV, resultsV, call48', und_X2, size_X2, zeroV_X2, bytesOf_X2, aggT_X2, agg5, size5, zeroV5, bytesOf5, u3, u40, u9, Tryd.underlying61, Tryd.underlying5, wrapU64, wrapU8, builtinV, convV, ce_int, sc_int, fillV, splice, Heap.put, Heap.get, appendV, srcCells, cellsOf, rowOf, zerosT, isIntT, isStr, maxBytes, indexAddrV, asI, cellsAt, takeV, hi, hi', hx, hq, hr, q0, q1, r0, r1, w1, w2, w3, ht, hlen, hns, hbig, wI, bytEnd]
def hexI (bs : List Int) : List Int := bs.flatMap fun x => [letterB (x / 16), letterB (x % 16)]
theorem byt_head (bs hs : List Int) (ver i : Nat) (x : Int) : head X2 34 0 bytLoop (bytEnd bs hs ver i x) = bytSt bs (hs ++ [letterB (x / 16), letterB (x % 16)]) (ver + 1) (i + 1) := by
  unfold head
  rw [byt_clears]
  have h := canon_two (tm := clearTm [27, 26, 25, 24, 23, 22, 21, 20, 19, 18, 17, 16, 5, 15, 14, 13] (bytEnd bs hs ver i x).tm) (H := (bytEnd bs hs ver i x).H) (b := 0) (cs := bytesI (hs ++ [letterB (x / 16), letterB (x % 16)])) (mu := true) (ver := ver + 1)
    (by simp [clearTm, bytEnd, refsL, V.refs, refsL_bytes]) (by simp [bytEnd, Heap.get, bytesI]) (refsL_bytes _)
  rcases h with h | ⟨_, h, _⟩
  · simp only [h]
    simp [clearTm, bytEnd, renL, V.ren, indexOf, bytSt, renL_bytes]
  · simp [bytEnd] at h
def bytFin (bs hs : List Int) (ver : Nat) : St := ⟨(bytSt bs hs ver bs.length).tm.set 13 (.bool false), (bytSt bs hs ver bs.length).H⟩
theorem byt_done (m : Nat) (bs hs : List Int) (ver : Nat) : evCode X2 (m + 20) 34 0 bytLoop (bytSt bs hs ver bs.length) = some (.exit 0, bytFin bs hs ver) := by
  simp [bytLoop, bytB, bytSt, bytFin, Tryd.f34, cfst, csnd, evCall, callWith, run_seq, run_then, run_then_ret, run_then_exit, run_region, run_regionK, run_cond, run_cond_true, run_cond_false, run_block, run_block_exit, run_block_ret, run_block_normal, evCode_exit, evCode_ret, evCode_skip, evRegion_seq, run_seqs, run_seqK, evSeq_zero, run_step, run_stepO, run_stepK_true, run_stepK_false, run_stepR, wantedV, evOp, evOpR, opd, putTm, putAll, ofValue, ofScalar, binV, intOp, unV, resultsV]
theorem byt_loop (bs : List Int) (hlen64 : bs.length < 4611686018427387904) (hb : ∀ x ∈ bs, 0 ≤ x ∧ x < 256) : ∀ (k i : Nat) (hs : List Int) (ver : Nat) (st : St), i + k = bs.length → hs.length + 2 * k ≤ 1000000000000 → head X2 34 0 bytLoop st = bytSt bs hs ver i →
    evCode X2 (k + 20 + 1) 34 0 (.loop bytLoop) st = some (.exit 0, bytFin bs (hs ++ hexI (bs.drop i)) (ver + k)) := by
  intro k
  induction k with
  | zero =>
    intro i hs ver st hi hh hs'
    have e : i = bs.length := by omega
    subst e
    rw [evCode_loop, hs', byt_done 0 bs hs ver]
    simp [hexI]
  | succ k ih =>
    intro i hs ver st hi hh hs'
    have hil : i < bs.length := by omega
    have hd : bs.drop i = bs[i] :: bs.drop (i + 1) := List.drop_eq_getElem_cons hil
    have hx : (bytesI bs).drop i = .int .u8 bs[i] :: (bytesI bs).drop (i + 1) := by
      unfold bytesI
      rw [← List.map_drop, ← List.map_drop, hd]
      rfl
    obtain ⟨x0, x1⟩ := hb bs[i] (List.getElem_mem hil)
    have hn := byt_next (k + 1) bs hs ver i bs[i] hil hlen64 hx x0 x1 (by omega) id
    obtain ⟨⟨ex, st'⟩, h1, h2⟩ := Option.map_eq_some_iff.1 hn
    simp only [id, Prod.mk.injEq] at h2
    obtain ⟨rfl, rfl⟩ := h2
    rw [evCode_loop, hs', h1]
    simp only
    have e : k + 1 + 20 = k + 20 + 1 := by omega
    rw [e, ih (i + 1) _ (ver + 1) _ (by omega) (by simp; omega) (byt_head bs hs ver i bs[i])]
    have e2 : ver + 1 + k = ver + (k + 1) := by omega
    have e3 : hexI (bs.drop i) = [letterB (bs[i] / 16), letterB (bs[i] % 16)] ++ hexI (bs.drop (i + 1)) := by rw [hd]; rfl
    rw [e2, e3, List.append_assoc]
def toBytes (l : List Int) : List UInt8 := l.map fun n => UInt8.ofNat n.toNat
def bytStart (bs : List Int) : St := ⟨[.sl 1 bs.length (bytesI bs), .dead, .str [], .msl 0 0 0 1 0, .dead, .dead, .sl 1 bs.length (bytesI bs), .int .i64 bs.length, .int .i64 (2 * bs.length), .msl 0 0 0 1 0, .sl 1 bs.length (bytesI bs), .int .i64 bs.length, .int .i64 0, .dead, .dead, .dead, .dead, .dead, .dead, .dead, .dead, .dead, .dead, .dead, .dead, .dead, .dead, .dead, .dead, .dead], [some (.row [] true 0)]⟩
theorem byt_start (bs : List Int) : head X2 34 0 bytLoop (bytStart bs) = bytSt bs [] 0 0 := by
  unfold head
  rw [byt_clears]
  have h := canon_two (tm := clearTm [27, 26, 25, 24, 23, 22, 21, 20, 19, 18, 17, 16, 5, 15, 14, 13] (bytStart bs).tm) (H := (bytStart bs).H) (b := 0) (cs := bytesI []) (mu := true) (ver := 0)
    (by simp [clearTm, bytStart, refsL, V.refs, refsL_bytes]) (by simp [bytStart, Heap.get, bytesI]) (refsL_bytes _)
  rcases h with h | ⟨h, _, _⟩
  · simp only [h]
    simp [clearTm, bytStart, renL, V.ren, indexOf, bytSt, renL_bytes]
  · simp only [h]
    simp [clearTm, bytStart, bytSt]
    simp [bytesI]
theorem byt_ev (bs : List Int) (hne : bs ≠ []) (hlen : bs.length ≤ 100000000000) (hb : ∀ x ∈ bs, 0 ≤ x ∧ x < 256) : evCall X2 (bs.length + 26) 34 [.sl 1 bs.length (bytesI bs)] [] = some (.str (toBytes (hexI bs)), []) := by
  have hpos : 0 < bs.length := List.length_pos_iff.2 hne
  have hw : IntKind.i64.wrap (2 * (bs.length : Int)) = 2 * (bs.length : Int) := by simp [IntKind.wrap, IntKind.bits, IntKind.signed]; omega
  have g1 : (0 : Int) ≤ 2 * (bs.length : Int) := by omega
  have g2 : (2 : Int) * (bs.length : Int) ≤ 70368744177664 := by omega
  have g3 : ¬ (2 * (bs.length : Int) = 0) := by omega
  have hl := byt_loop bs (by omega) hb bs.length 0 [] 0 (bytStart bs) (by omega) (by simp; omega) (byt_start bs)
  have hl' : evCode X2 (bs.length + 21) 34 0 (.loop bytLoop) (bytStart bs) = some (.exit 0, bytFin bs (hexI bs) bs.length) := by simpa using hl
  unfold bytStart at hl'
  have ht := take_bytes (hexI bs)
  have hsv := strV_bytes (hexI bs)
  have hbl := bytesI_len (hexI bs)
  have hc : (evCode X2 (bs.length + 26) 34 0 (.seq (cfst bytB) (.seq (cfst (csnd bytB)) (.seq (.seq (cfst (cfst (csnd (csnd bytB)))) (.block 0 (.loop bytLoop))) (csnd (csnd (csnd bytB)))))) ⟨[.sl 1 bs.length (bytesI bs)] ++ List.replicate (Tryd.f34.ntmps - 1) .dead, []⟩).map (fun r => (r.1, r.2.tm[2]?)) = some (.ret, some (.str (toBytes (hexI bs)))) := by
    simp [bytB, Tryd.f34, cfst, csnd, evCall, callWith, run_seq, run_then, run_then_ret, run_then_exit, run_region, run_regionK, run_cond, run_cond_true, run_cond_false, run_block, run_block_exit, run_block_ret, run_block_normal, evCode_exit, evCode_ret, evCode_skip, evRegion_seq, run_seqs, run_seqK, evSeq_zero, run_step, run_stepO, run_stepK_true, run_stepK_false, run_stepR, wantedV, evOp, evOpR, opd, putTm, putAll, ofValue, ofScalar, binV, intOp, unV, resultsV, und_X2, size_X2, zeroV_X2, bytesOf_X2, u3, u40, u9, Tryd.underlying5, size5, zeroV5, bytesOf5, builtinV, lenV, hw, asI, maxBytes, ce_int, sc_int, g1, g2, g3, Heap.put, hl', bytFin, bytSt, convV, cellsOf, rowOf, Heap.get, ht, hsv, hbl, toBytes]
  obtain ⟨⟨ex, stf⟩, h1, h2⟩ := Option.map_eq_some_iff.1 hc
  simp only [Prod.mk.injEq] at h2
  obtain ⟨rfl, h2⟩ := h2
  have hr : resultsV X2 Tryd.f34 stf.tm stf.H = some (.str (toBytes (hexI bs))) := by
    simp [resultsV, Tryd.f34, h2]
  have := evCall_body (X := X2) (n := bs.length + 26) (f := 34) (args := [.sl 1 bs.length (bytesI bs)]) (H := []) rfl Tryd.func34 byt_shape h1 (.inr rfl) hr
  rw [this]
  exact congrArg some (leave_str _ _)
end Go.Ev
