/- A part of the proof of BenchRefuses: no statement of the seat's stands here. -/
import Derived.Test.YtbcackicpjobmaaGreatDoorUa
import Derived.Test.YtbcackicpjobmaaGreatDoorZh
set_option linter.unusedSectionVars false
set_option linter.unusedSimpArgs false
set_option linter.unusedVariables false
set_option linter.all false
/- The functions that BenchRefuses reaches where a config is refused. -/
set_option linter.unusedVariables false
set_option linter.unusedSimpArgs false
set_option linter.unusedSectionVars false
set_option maxRecDepth 100000
set_option maxHeartbeats 4000000
namespace Go.Ev
open Go Go.Proofs
attribute [local simp] run_seq run_then run_then_ret run_then_exit run_region run_regionK run_cond run_cond_true run_cond_false run_block run_block_exit run_block_ret run_block_normal evCode_exit evCode_ret evCode_skip evRegion_seq run_seqs run_seqK evSeq_zero run_step run_stepO run_stepK_true run_stepK_false run_stepR wantedV evOp evOpR opd putTm putAll ofValue ofScalar binV intOp unV
  und_z size_z zeroV_z aggT_z typed_z zs3 zs25 zs30 zs31 zs33 zs34 zs35 zs37 za3 za25 za30 za31 za33 za34 za35 za37 zz30 zz37 Tryz.underlying3 Tryz.underlying25 Tryz.underlying30 Tryz.underlying33 Tryz.underlying37
  builtinV asI asN ce_int ce_str ce_bool ce_agg ce_sl ce_nilsl sc_int sc_str sc_bool sc_sl sc_nilsl fillV splice Heap.put Heap.get rowOf fieldAddrV fieldOf storeAt cellsAt takeV partV
  resultsR leaveR_some fin_ret fin_normal lv_bool
theorem e28 {X : Ctx} [Prz X] (hs : X.spec 28 = none) (n : Nat) (a : Int) : evCall X (n + 10) 28 [.int .i64 a] [] = some (.bool (inB a), []) := by
  refine call_fin hs (funcs_z Tryz.func28) rfl rfl rfl ?_
  unfold inB
  cases h1 : decide (a ≥ 1) <;> cases h2 : decide (a ≤ 255) <;> simp -implicitDefEqProofs [Tryz.f28, h1, h2]

def F28 (l : List V) (H : Heap) : Option (V × Heap) := match l, H with
  | [.int .i64 a], [] => some (.bool (inB a), [])
  | _, _ => none
theorem Good.h28 {X : Ctx} [Prz X] (h : Good X) (hs : X.spec 28 = none) : Good (X.hook 28 F28) := h.hook fun args H r H' hr => by
  unfold F28 at hr
  split at hr
  · cases hr; exact ⟨_, e28 hs 0 _⟩
  · cases hr
section
variable {X : Ctx} [Prz X] {rec : FuncId → Nat → Code → St → Option (Ex × St)} {fresh : Nat → Nat} {H : Heap}
theorem cv28 (hs : X.spec 28 = some F28) (a : Int) : callV X (callWith X rec) 28 [.int .i64 a] fresh H = some { v := .bool (inB a) } :=
  callV_pure (Prz.x _) (by simp [mslsL, V.msls]) (by simp [refsL, V.refs]) (by rw [call_hook hs]; rfl) (by simp [V.refs])
end
/-- A config. -/
structure Cf where
  a : Int
  b : Int
  c : Int
  m : Int
  s : List UInt8
  o : List UInt8
  d : Int
  u : Int
  w : Bool
def Cf.v (c : Cf) : V := .agg [.int .i64 c.a, .int .i64 c.b, .int .i64 c.c, .int .i64 c.m, .str c.s, .str c.o, .int .i64 c.d, .int .u32 c.u, .bool c.w]
def Cf.counts (c : Cf) : Bool := inB c.a && inB c.b && inB c.c
def Cf.good (c : Cf) : Bool := c.counts && decide (c.m ≥ 8) && decide (c.m ≤ 65535)
theorem Cf.v_msls (c : Cf) : c.v.msls = [] := by simp [Cf.v, V.msls, mslsL]
theorem Cf.v_refs (c : Cf) : c.v.refs = [] := by simp [Cf.v, V.refs, refsL]
theorem e12 {X : Ctx} [Prz X] (hs : X.spec 12 = none) (h28 : X.spec 28 = some F28) (n : Nat) (c : Cf) : evCall X (n + 10) 12 [c.v] [] = some (.bool c.counts, []) := by
  refine call_fin hs (funcs_z Tryz.func12) rfl rfl rfl ?_
  unfold Cf.counts
  cases h1 : inB c.a <;> cases h2 : inB c.b <;> cases h3 : inB c.c <;> simp -implicitDefEqProofs [Tryz.f12, Cf.v, cv28 h28, h1, h2, h3]

def hkB (p : Cf → Bool) (l : List V) (H : Heap) : Option (V × Heap) := match l, H with
  | [.agg [.int .i64 a, .int .i64 b, .int .i64 c, .int .i64 m, .str s, .str o, .int .i64 d, .int .u32 u, .bool w]], [] => some (.bool (p ⟨a, b, c, m, s, o, d, u, w⟩), [])
  | _, _ => none
theorem hkB_v (p : Cf → Bool) (c : Cf) : hkB p [c.v] [] = some (.bool (p c), []) := rfl
theorem Good.hkB {X : Ctx} (h : Good X) {f : FuncId} {p : Cf → Bool} {n : Nat} (he : ∀ c : Cf, evCall X n f [c.v] [] = some (.bool (p c), [])) (hne : f ≠ yieldId := by decide) : Good (X.hook f (Go.Ev.hkB p)) := h.hook (hne := hne) fun args H r H' hr => by
  unfold Go.Ev.hkB at hr
  split at hr
  · rename_i a b c m s o d u w
    cases hr; exact ⟨n, he ⟨a, b, c, m, s, o, d, u, w⟩⟩
  · cases hr
section
variable {X : Ctx} [Prz X] {rec : FuncId → Nat → Code → St → Option (Ex × St)} {fresh : Nat → Nat} {H : Heap}
theorem cvB {f : FuncId} {p : Cf → Bool} (hs : X.spec f = some (hkB p)) (c : Cf) (hne : f ≠ yieldId := by decide) : callV X (callWith X rec) f [c.v] fresh H = some { v := .bool (p c) } :=
  callV_pure (Prz.x _) (by simp [mslsL, c.v_msls]) (by simp [refsL, c.v_refs]) (by rw [call_hook hs _ _ hne, hkB_v]) (by simp [V.refs]) hne
end
theorem Cf.v_eq (c : Cf) : V.agg [.int .i64 c.a, .int .i64 c.b, .int .i64 c.c, .int .i64 c.m, .str c.s, .str c.o, .int .i64 c.d, .int .u32 c.u, .bool c.w] = c.v := rfl
theorem e5 {X : Ctx} [Prz X] (hs : X.spec 5 = none) (h12 : X.spec 12 = some (hkB Cf.counts)) (n : Nat) (c : Cf) : evCall X (n + 10) 5 [c.v] [] = some (.bool c.good, []) := by
  refine call_fin hs (funcs_z Tryz.func5) rfl rfl rfl ?_
  have hv : ∀ {rec fresh H}, callV X (callWith X rec) 12 [V.agg [.int .i64 c.a, .int .i64 c.b, .int .i64 c.c, .int .i64 c.m, .str c.s, .str c.o, .int .i64 c.d, .int .u32 c.u, .bool c.w]] fresh H = some { v := .bool c.counts } := fun {rec fresh H} => cvB h12 c
  unfold Cf.good
  cases h1 : c.counts <;> cases h2 : decide (c.m ≥ 8) <;> cases h3 : decide (c.m ≤ 65535) <;> simp -implicitDefEqProofs [Tryz.f5, Cf.v, hv, h1, h2, h3]
def min3 (a b c : Int) : Int := if c < (if b < a then b else a) then c else (if b < a then b else a)
def max3 (a b c : Int) : Int := if c > (if b > a then b else a) then c else (if b > a then b else a)
theorem counts_min (c : Cf) : c.counts = (decide (min3 c.a c.b c.c ≥ 1) && decide (max3 c.a c.b c.c ≤ 255)) := by
  unfold Cf.counts inB min3 max3
  rw [Bool.eq_iff_iff]
  simp only [Bool.and_eq_true, decide_eq_true_eq]
  by_cases h1 : c.b < c.a <;> by_cases h2 : c.b > c.a <;> simp only [h1, h2, if_true, if_false] <;> split <;> split <;> omega
theorem minV3 (a b c : Int) : minV false [.int .i64 a, .int .i64 b, .int .i64 c] = some (.int .i64 (min3 a b c)) := by
  simp only [minV, List.foldlM_cons, List.foldlM_nil, min3]
  simp
theorem maxV3 (a b c : Int) : minV true [.int .i64 a, .int .i64 b, .int .i64 c] = some (.int .i64 (max3 a b c)) := by
  simp only [minV, List.foldlM_cons, List.foldlM_nil, max3]
  simp
attribute [local simp] minV3 maxV3
theorem e29 {X : Ctx} [Prz X] (hs : X.spec 29 = none) (n : Nat) (c : Cf) : evCall X (n + 10) 29 [c.v] [] = some (.bool c.counts, []) := by
  refine call_fin hs (funcs_z Tryz.func29) rfl rfl rfl ?_
  rw [counts_min]
  cases h1 : decide (min3 c.a c.b c.c ≥ 1) <;> cases h2 : decide (max3 c.a c.b c.c ≤ 255) <;> simp -implicitDefEqProofs [Tryz.f29, Cf.v, h1, h2]
theorem e13 {X : Ctx} [Prz X] (hs : X.spec 13 = none) (h29 : X.spec 29 = some (hkB Cf.counts)) (n : Nat) (c : Cf) : evCall X (n + 10) 13 [c.v] [] = some (.bool c.good, []) := by
  refine call_fin hs (funcs_z Tryz.func13) rfl rfl rfl ?_
  have hv : ∀ {rec fresh H}, callV X (callWith X rec) 29 [V.agg [.int .i64 c.a, .int .i64 c.b, .int .i64 c.c, .int .i64 c.m, .str c.s, .str c.o, .int .i64 c.d, .int .u32 c.u, .bool c.w]] fresh H = some { v := .bool c.counts } := fun {rec fresh H} => cvB h29 c
  unfold Cf.good
  cases h1 : c.counts <;> cases h2 : decide (c.m ≥ 8) <;> cases h3 : decide (c.m ≤ 65535) <;> simp -implicitDefEqProofs [Tryz.f13, Cf.v, hv, h1, h2, h3]
end Go.Ev
