/- A part of the proof of BenchRefuses: no statement of the seat's stands here. -/
import Derived.Test.YtbcackicpjobmaaGreatDoorUb
set_option linter.unusedSectionVars false
set_option linter.unusedSimpArgs false
set_option linter.unusedVariables false
set_option linter.all false
/- bench.Run and bench.Tell where a config is refused. -/
set_option linter.unusedVariables false
set_option linter.unusedSimpArgs false
set_option linter.unusedSectionVars false
set_option maxRecDepth 100000
set_option maxHeartbeats 8000000
namespace Go.Ev
open Go Go.Proofs
attribute [local simp] run_seq run_then run_then_ret run_then_exit run_region run_regionK run_cond run_cond_true run_cond_false run_block run_block_exit run_block_ret run_block_normal evCode_exit evCode_ret evCode_skip evRegion_seq run_seqs run_seqK evSeq_zero run_step run_stepO run_stepK_true run_stepK_false run_stepR wantedV evOp evOpR opd putTm putAll ofValue ofScalar binV intOp unV
  und_z size_z zeroV_z aggT_z typed_z zs3 zs25 zs30 zs31 zs33 zs34 zs35 zs37 za3 za25 za30 za31 za33 za34 za35 za37 zz30 zz37 Tryz.underlying3 Tryz.underlying25 Tryz.underlying30 Tryz.underlying33 Tryz.underlying37
  builtinV asI asN ce_int ce_str ce_bool ce_agg ce_sl ce_nilsl sc_int sc_str sc_bool sc_sl sc_nilsl fillV splice Heap.put Heap.get rowOf fieldAddrV fieldOf storeAt cellsAt takeV partV
  resultsR leaveR_some fin_ret fin_normal lv_bool

/-- Bytes that are handed in. -/
structure ByOk (X : Ctx) (b : V) (L : Int) : Prop where
  len : ∀ H, lenV X 22 b H = some { v := .int .i64 L }
  msls : b.msls = []
  refs : b.refs = []
def Cf.ref (c : Cf) : Bool := !c.good || (decide (c.d ≠ 1) && decide (c.d ≠ 2))
theorem argsMsls (b : V) (f : Int) (c : Cf) (h : b.msls = []) : mslsL [b, .int .i64 f, c.v] = [] := by simp [mslsL, h, c.v_msls, V.msls]
theorem argsRefs (b : V) (f : Int) (c : Cf) (h : b.refs = []) : refsL [b, .int .i64 f, c.v] = [] := by simp [refsL, h, c.v_refs, V.refs]
def run0 : V := .tuple [rep0, .int .i64 1]
def tell0 : V := .tuple [.str [], .int .i64 1]
theorem lv_run0 {X : Ctx} {f : FuncId} (H : Heap) : leave X f 0 (.tuple [.agg [.int .i64 0, .int .i64 0, .int .i64 0, .int .i64 0, .nilsl, .int .i64 0, .nilsl, .nilsl], .int .i64 1]) H = (run0, []) := leave_pure (by simp [V.msls, mslsL]) (by simp [V.refs, refsL]) H
theorem lv_tell0 {X : Ctx} {f : FuncId} (H : Heap) : leave X f 0 (.tuple [.str [], .int .i64 1]) H = (tell0, []) := leave_pure (by simp [V.msls, mslsL]) (by simp [V.refs, refsL]) H
theorem e6 {X : Ctx} [Prz X] (hs : X.spec 6 = none) (h13 : X.spec 13 = some (hkB Cf.good)) (n : Nat) (b : V) (L f : Int) (c : Cf) (hb : ByOk X b L) (hr : c.ref = true) : evCall X (n + 10) 6 [b, .int .i64 f, c.v] [] = some (run0, []) := by
  refine call_fin hs (funcs_z Tryz.func6) rfl rfl rfl ?_
  have hv : ∀ {rec fresh H}, callV X (callWith X rec) 13 [V.agg [.int .i64 c.a, .int .i64 c.b, .int .i64 c.c, .int .i64 c.m, .str c.s, .str c.o, .int .i64 c.d, .int .u32 c.u, .bool c.w]] fresh H = some { v := .bool c.good } := fun {rec fresh H} => cvB h13 c
  unfold Cf.ref at hr
  cases h1 : c.good
  · simp -implicitDefEqProofs [Tryz.f6, Cf.v, hv, h1, lv_run0]
  · rw [h1] at hr
    simp only [Bool.not_true, Bool.false_or, Bool.and_eq_true, decide_eq_true_eq] at hr
    simp -implicitDefEqProofs [Tryz.f6, Cf.v, hv, h1, lv_run0, hr.1, hr.2]

def lenB (b : V) : Option Int := match b with
  | .nilsl => some 0
  | .slz => some 0
  | .sl _ n cs => if (mslsL cs).isEmpty && (refsL cs).isEmpty then some n else none
  | _ => none
theorem lenB_ok {X : Ctx} [Prz X] {b : V} {L : Int} (h : lenB b = some L) : ByOk X b L := by
  unfold lenB at h
  split at h
  · cases h; exact ⟨fun H => by simp [lenV, und_z, Tryz.underlying22], by simp [V.msls], by simp [V.refs]⟩
  · cases h; exact ⟨fun H => by simp [lenV, und_z, Tryz.underlying22], by simp [V.msls], by simp [V.refs]⟩
  · split at h
    · rename_i hc
      simp only [Bool.and_eq_true, List.isEmpty_iff] at hc
      cases h; exact ⟨fun H => by simp [lenV, und_z, Tryz.underlying22], by simp [V.msls, hc.1], by simp [V.refs, hc.2]⟩
    · cases h
  · cases h
def hkR (r : V) (l : List V) (H : Heap) : Option (V × Heap) := match l, H with
  | [x, .int .i64 f, .agg [.int .i64 a, .int .i64 b, .int .i64 c, .int .i64 m, .str s, .str o, .int .i64 d, .int .u32 u, .bool w]], [] =>
    if (lenB x).isSome && (Cf.mk a b c m s o d u w).ref then some (r, []) else none
  | _, _ => none
theorem hkR_v {r x : V} {L f : Int} {c : Cf} (hx : lenB x = some L) (hr : c.ref = true) : hkR r [x, .int .i64 f, c.v] [] = some (r, []) := by
  show (if (lenB x).isSome && c.ref then some (r, []) else none) = _
  rw [hx, hr]; rfl
theorem Good.hkR {X : Ctx} (h : Good X) {g : FuncId} {r : V} {n : Nat} (he : ∀ (x : V) (L f : Int) (c : Cf), lenB x = some L → c.ref = true → evCall X n g [x, .int .i64 f, c.v] [] = some (r, [])) (hne : g ≠ yieldId := by decide) : Good (X.hook g (Go.Ev.hkR r)) := h.hook (hne := hne) fun args H r' H' hr => by
  unfold Go.Ev.hkR at hr
  split at hr
  · rename_i x f a b c m s o d u w
    split at hr
    · rename_i hc
      simp only [Bool.and_eq_true] at hc
      obtain ⟨L, hL⟩ := Option.isSome_iff_exists.1 hc.1
      cases hr
      exact ⟨n, he x L f ⟨a, b, c, m, s, o, d, u, w⟩ hL hc.2⟩
    · cases hr
  · cases hr
section
variable {X : Ctx} [Prz X] {rec : FuncId → Nat → Code → St → Option (Ex × St)} {fresh : Nat → Nat} {H : Heap}
theorem cvR {g : FuncId} {r x : V} {L f : Int} {c : Cf} (hs : X.spec g = some (hkR r)) (hx : lenB x = some L) (hc : c.ref = true) (hr : r.refs = []) (hne : g ≠ yieldId := by decide) : callV X (callWith X rec) g [x, .int .i64 f, c.v] fresh H = some { v := r } :=
  callV_pure (Prz.x _) (argsMsls x f c (lenB_ok (X := X) hx).msls) (argsRefs x f c (lenB_ok (X := X) hx).refs) (by rw [call_hook hs _ _ hne, hkR_v hx hc]) hr hne
end
theorem e7 {X : Ctx} [Prz X] (hs : X.spec 7 = none) (h6 : X.spec 6 = some (hkR run0)) (n : Nat) (x : V) (L f : Int) (c : Cf) (hx : lenB x = some L) (hr : c.ref = true) : evCall X (n + 10) 7 [x, .int .i64 f, c.v] [] = some (tell0, []) := by
  refine call_fin hs (funcs_z Tryz.func7) rfl rfl rfl ?_
  have hv : ∀ {rec fresh H}, callV X (callWith X rec) 6 [x, .int .i64 f, V.agg [.int .i64 c.a, .int .i64 c.b, .int .i64 c.c, .int .i64 c.m, .str c.s, .str c.o, .int .i64 c.d, .int .u32 c.u, .bool c.w]] fresh H = some { v := run0 } := fun {rec fresh H} => cvR h6 hx hr (by simp [run0, rep0, V.refs, refsL])
  simp -implicitDefEqProofs [Tryz.f7, Cf.v, hv, run0, rep0, lv_tell0]
/- two zero reports are the same -/
def t8 : Tab := [([rep0, rep0], .bool true)]
theorem k8 : checkTab XZ 3000 8 t8 = true := by kernel_rfl
theorem cv8 {X : Ctx} [Prz X] {rec : FuncId → Nat → Code → St → Option (Ex × St)} {fresh : Nat → Nat} {H : Heap} (hs : X.spec 8 = some (memoF (tabF t8))) : callV X (callWith X rec) 8 [rep0, rep0] fresh H = some { v := .bool true } :=
  callV_pure (Prz.x _) (by simp [rep0, mslsL, V.msls]) (by simp [rep0, refsL, V.refs]) (by rw [call_hook hs, memoF_eq]; kernel_rfl) (by simp [V.refs])
def t4 : Tab := [([], .bool true)]
theorem cv4 {X : Ctx} [Prz X] {rec : FuncId → Nat → Code → St → Option (Ex × St)} {fresh : Nat → Nat} {H : Heap} (hs : X.spec 4 = some (memoF (tabF t4))) : callV X (callWith X rec) 4 [] fresh H = some { v := .bool true } :=
  callV_pure (Prz.x _) (by simp [mslsL]) (by simp [refsL]) (by rw [call_hook hs, memoF_eq]; kernel_rfl) (by simp [V.refs])
theorem e3 {X : Ctx} [Prz X] (hs : X.spec 3 = none) (h4 : X.spec 4 = some (memoF (tabF t4))) (h5 : X.spec 5 = some (hkB Cf.good)) (h6 : X.spec 6 = some (hkR run0)) (h7 : X.spec 7 = some (hkR tell0)) (h8 : X.spec 8 = some (memoF (tabF t8)))
    (n : Nat) (x : V) (L f : Int) (c : Cf) (hx : lenB x = some L) : evCall X (n + 20) 3 [x, .int .i64 f, c.v] [] = some (.bool true, []) := by
  refine call_fin hs (funcs_z Tryz.func3) rfl rfl rfl ?_
  have hl : ∀ H, lenV X 22 x H = some { v := .int .i64 L } := (lenB_ok (X := X) hx).len
  have hv4 : ∀ {rec fresh H}, callV X (callWith X rec) 4 [] fresh H = some { v := .bool true } := fun {rec fresh H} => cv4 h4
  have hv5 : ∀ {rec fresh H}, callV X (callWith X rec) 5 [V.agg [.int .i64 c.a, .int .i64 c.b, .int .i64 c.c, .int .i64 c.m, .str c.s, .str c.o, .int .i64 c.d, .int .u32 c.u, .bool c.w]] fresh H = some { v := .bool c.good } := fun {rec fresh H} => cvB h5 c
  have hv8 : ∀ {rec fresh H}, callV X (callWith X rec) 8 [.agg [.int .i64 0, .int .i64 0, .int .i64 0, .int .i64 0, .nilsl, .int .i64 0, .nilsl, .nilsl], .agg [.int .i64 0, .int .i64 0, .int .i64 0, .int .i64 0, .nilsl, .int .i64 0, .nilsl, .nilsl]] fresh H = some { v := .bool true } := fun {rec fresh H} => cv8 h8
  have hn : ∀ H, lenV X 31 .nilsl H = some { v := .int .i64 0 } := fun H => by simp [lenV, und_z, Tryz.underlying31]
  by_cases hL : L > 1000
  · simp -implicitDefEqProofs [Tryz.f3, Cf.v, hl, hv4, hv5, hL]
  have hL2 : ¬ (1000 : Int) < L := hL
  cases hc : c.ref with
  | false =>
    have hc' : c.good = true ∧ (c.d = 1 ∨ c.d = 2) := by
      unfold Cf.ref at hc
      cases hg : c.good
      · rw [hg] at hc; simp at hc
      · refine ⟨rfl, ?_⟩
        rw [hg] at hc
        simp only [Bool.not_true, Bool.false_or, Bool.and_eq_false_iff, decide_eq_false_iff_not, Decidable.not_not] at hc
        exact hc
    rcases hc'.2 with hd | hd
    · have e : c.v = V.agg [.int .i64 c.a, .int .i64 c.b, .int .i64 c.c, .int .i64 c.m, .str c.s, .str c.o, .int .i64 1, .int .u32 c.u, .bool c.w] := by simp [Cf.v, hd]
      have hv5' : ∀ {rec fresh H}, callV X (callWith X rec) 5 [V.agg [.int .i64 c.a, .int .i64 c.b, .int .i64 c.c, .int .i64 c.m, .str c.s, .str c.o, .int .i64 1, .int .u32 c.u, .bool c.w]] fresh H = some { v := .bool c.good } := fun {rec fresh H} => by rw [← e]; exact cvB h5 c
      simp -implicitDefEqProofs [Tryz.f3, e, hl, hv4, hv5', hL2, hc'.1]
    · have e : c.v = V.agg [.int .i64 c.a, .int .i64 c.b, .int .i64 c.c, .int .i64 c.m, .str c.s, .str c.o, .int .i64 2, .int .u32 c.u, .bool c.w] := by simp [Cf.v, hd]
      have hv5' : ∀ {rec fresh H}, callV X (callWith X rec) 5 [V.agg [.int .i64 c.a, .int .i64 c.b, .int .i64 c.c, .int .i64 c.m, .str c.s, .str c.o, .int .i64 2, .int .u32 c.u, .bool c.w]] fresh H = some { v := .bool c.good } := fun {rec fresh H} => by rw [← e]; exact cvB h5 c
      simp -implicitDefEqProofs [Tryz.f3, e, hl, hv4, hv5', hL2, hc'.1]
  | true =>
    have hv6 : ∀ {rec fresh H}, callV X (callWith X rec) 6 [x, .int .i64 f, V.agg [.int .i64 c.a, .int .i64 c.b, .int .i64 c.c, .int .i64 c.m, .str c.s, .str c.o, .int .i64 c.d, .int .u32 c.u, .bool c.w]] fresh H = some { v := run0 } := fun {rec fresh H} => cvR h6 hx hc (by simp [run0, rep0, V.refs, refsL])
    have hv7 : ∀ {rec fresh H}, callV X (callWith X rec) 7 [x, .int .i64 f, V.agg [.int .i64 c.a, .int .i64 c.b, .int .i64 c.c, .int .i64 c.m, .str c.s, .str c.o, .int .i64 c.d, .int .u32 c.u, .bool c.w]] fresh H = some { v := tell0 } := fun {rec fresh H} => cvR h7 hx hc (by simp [tell0, V.refs, refsL])
    have hd := hc
    unfold Cf.ref at hd
    cases hg : c.good
    · simp -implicitDefEqProofs [Tryz.f3, Cf.v, hl, hv4, hv5, hv6, hv7, hv8, hn, hL2, hg, run0, rep0, tell0, strOp, sameBytes]
    · rw [hg] at hd
      simp only [Bool.not_true, Bool.false_or, Bool.and_eq_true, decide_eq_true_eq] at hd
      simp -implicitDefEqProofs [Tryz.f3, Cf.v, hl, hv4, hv5, hv6, hv7, hv8, hn, hL2, hg, hd.1, hd.2, run0, rep0, tell0, strOp, sameBytes]
end Go.Ev
