/- A part of the proof of BenchRefuses: no statement of the seat's stands here. -/
import Derived.Test.YtbcackicpjobmaaGreatDoorZd
set_option linter.unusedSectionVars false
set_option linter.unusedSimpArgs false
set_option linter.unusedVariables false
set_option linter.all false
/- A small kit for symbolic runs over the program of BenchRefuses. -/
set_option linter.unusedVariables false
set_option linter.unusedSimpArgs false
set_option maxRecDepth 10000
namespace Go.Ev
open Go Go.Proofs
class Prz (X : Ctx) : Prop where
  P : X.P = Tryz.prog
  x : ∀ f, X.ext f = none
  t : ∀ t, X.typed t = XZ.typed t
instance : Prz XZ := ⟨rfl, fun _ => rfl, fun _ => rfl⟩
instance {X : Ctx} [h : Prz X] (f F) : Prz (X.hook f F) := ⟨h.P, h.x, h.t⟩
section
variable {X : Ctx} [h : Prz X]
theorem und_z (t : TypeId) : und X t = Tryz.prog.underlying t := by unfold und; rw [h.P]
theorem size_z (t : TypeId) : size X t = size XZ t := by unfold size; rw [h.P]; rfl
theorem zeroV_z (t : TypeId) : zeroV X t = zeroV XZ t := by unfold zeroV; rw [h.P]; rfl
theorem aggT_z (t : TypeId) : aggT X t = aggT XZ t := by unfold aggT und; rw [h.P]; rfl
theorem funcs_z {f : FuncId} {fn : Func} (h0 : Tryz.prog.funcs[f]? = some fn) : X.P.funcs[f]? = some fn := by rw [h.P]; exact h0
theorem typed_z (t : TypeId) : X.typed t = if t = 251 then some (251, 2) else none := by rw [h.t]; rfl
end
theorem zs3 : size XZ 3 = some 1 := by kernel_rfl
theorem zs25 : size XZ 25 = some 9 := by kernel_rfl
theorem zs30 : size XZ 30 = some 2 := by kernel_rfl
theorem zs31 : size XZ 31 = some 1 := by kernel_rfl
theorem zs33 : size XZ 33 = some 5 := by kernel_rfl
theorem zs34 : size XZ 34 = some 1 := by kernel_rfl
theorem zs35 : size XZ 35 = some 1 := by kernel_rfl
theorem zs37 : size XZ 37 = some 8 := by kernel_rfl
theorem za3 : aggT XZ 3 = some false := by kernel_rfl
theorem za25 : aggT XZ 25 = some true := by kernel_rfl
theorem za30 : aggT XZ 30 = some true := by kernel_rfl
theorem za31 : aggT XZ 31 = some false := by kernel_rfl
theorem za33 : aggT XZ 33 = some true := by kernel_rfl
theorem za34 : aggT XZ 34 = some false := by kernel_rfl
theorem za35 : aggT XZ 35 = some false := by kernel_rfl
theorem za37 : aggT XZ 37 = some true := by kernel_rfl
def rep0 : V := .agg [.int .i64 0, .int .i64 0, .int .i64 0, .int .i64 0, .nilsl, .int .i64 0, .nilsl, .nilsl]
theorem zz30 : zeroV XZ 30 = some (.agg [.int .i64 0, .int .i64 0]) := by kernel_rfl
theorem zz37 : zeroV XZ 37 = some (.agg [.int .i64 0, .int .i64 0, .int .i64 0, .int .i64 0, .nilsl, .int .i64 0, .nilsl, .nilsl]) := by kernel_rfl

def resultsR (X : Ctx) (res : Array ResultVar) (tm : List V) (H : Heap) : Option V := do
  let vs ← res.toList.mapM fun
    | .tmp t => some ((tm[t]?).getD .dead)
    | .cell a t => do
      let (cs, _) ← cellsAt H ((tm[a]?).getD .dead)
      takeV (← aggT X t) (← size X t) cs
  match vs with
  | [v] => some v
  | vs => some (.tuple vs)
def leaveR (X : Ctx) (f : FuncId) (pins : Nat) (H : Heap) : Option V → Option (V × Heap)
  | some r => some (leave X f pins r H)
  | none => none
def fin (X : Ctx) (res : Array ResultVar) (f : FuncId) (pins : Nat) : Option (Ex × St) → Option (V × Heap)
  | some (.normal, st) => leaveR X f pins st.H (resultsR X res st.tm st.H)
  | some (.ret, st) => leaveR X f pins st.H (resultsR X res st.tm st.H)
  | _ => none
section
variable {X : Ctx} {res : Array ResultVar} {f : FuncId} {p : Nat}
theorem fin_ret (st : St) : fin X res f p (some (.ret, st)) = leaveR X f p st.H (resultsR X res st.tm st.H) := rfl
theorem fin_normal (st : St) : fin X res f p (some (.normal, st)) = leaveR X f p st.H (resultsR X res st.tm st.H) := rfl
theorem leaveR_some (r : V) (H : Heap) : leaveR X f p H (some r) = some (leave X f p r H) := rfl
end
/-- A call of a function that has no hook. -/
theorem call_fn {X : Ctx} {rec : FuncId → Nat → Code → St → Option (Ex × St)} {f : FuncId} {fn : Func} {c : Code} {nt : Nat} {res : Array ResultVar} {args : List V} {H : Heap} (hs : X.spec f = none) (hf : X.P.funcs[f]? = some fn) (hb : fn.body = some c) (hn : fn.ntmps = nt) (hr : fn.results = res) (hne : f ≠ yieldId := by decide) :
    callWith X rec f args H = fin X res f H.length (rec f H.length c ⟨args ++ List.replicate (nt - args.length) .dead, H⟩) := by
  subst hn hr
  unfold callWith
  rw [if_neg hne, hs]
  simp only
  rw [hf]
  simp only
  rw [hb]
  simp only
  cases rec f H.length c ⟨args ++ List.replicate (fn.ntmps - args.length) .dead, H⟩ with
  | none => rfl
  | some x =>
    obtain ⟨ex, st⟩ := x
    cases ex with
    | exit i => rfl
    | goto l => rfl
    | normal =>
      simp only [fin]
      show _ = leaveR X f H.length st.H (resultsV X fn st.tm st.H)
      cases resultsV X fn st.tm st.H <;> rfl
    | ret =>
      simp only [fin]
      show _ = leaveR X f H.length st.H (resultsV X fn st.tm st.H)
      cases resultsV X fn st.tm st.H <;> rfl
/-- A whole call, from its body's run. -/
theorem call_fin {X : Ctx} {n : Nat} {f : FuncId} {fn : Func} {c : Code} {nt : Nat} {res : Array ResultVar} {args : List V} {r : V × Heap} (hs : X.spec f = none) (hf : X.P.funcs[f]? = some fn) (hb : fn.body = some c) (hn : fn.ntmps = nt) (hr : fn.results = res)
    (hc : fin X res f 0 (evCode X n f 0 c ⟨args ++ List.replicate (nt - args.length) .dead, []⟩) = some r) (hne : f ≠ yieldId := by decide) : evCall X n f args [] = some r := by
  unfold evCall
  rw [call_fn hs hf hb hn hr hne]
  exact hc
theorem call_hook {X : Ctx} {rec : FuncId → Nat → Code → St → Option (Ex × St)} {f : FuncId} {F} (hs : X.spec f = some F) (args : List V) (H : Heap) (hne : f ≠ yieldId := by decide) : callWith X rec f args H = F args H := by
  unfold callWith; rw [if_neg hne, hs]
/-- A call whose arguments lean on no block of ours, and whose answer doesn't either. -/
theorem callV_pure {X : Ctx} {call : CallFn} {f : FuncId} {ags : List V} {fresh : Nat → Nat} {H : Heap} {r : V} (hx : X.ext f = none) (h1 : mslsL ags = []) (h2 : refsL ags = []) (hc : call f ags [] = some (r, [])) (hf : r.refs = []) (hne : f ≠ yieldId := by decide) :
    callV X call f ags fresh H = some { v := r } := by
  have hav : (if X.mutArgs f = true then (V.tuple ags, []) else resolve H 4 (.tuple ags)) = (V.tuple ags, ([] : List Nat)) := by
    split
    · rfl
    · have : (V.tuple ags).msls = [] := by unfold V.msls; exact h1
      unfold resolve
      rw [this]
  unfold callV
  rw [hx]
  simp only
  rw [if_neg hne]
  unfold callP
  simp only
  rw [hav]
  simp only [h2, reach, List.isEmpty_nil, if_true, freezeRows, List.foldl_nil, subHeap, List.map_nil]
  rw [renL_id _ _ h2, hc]
  simp only [Bool.true_and, List.isEmpty_nil]
  split
  · rfl
  · simp [ren_id _ _ hf]
theorem leave_pure {X : Ctx} {f : FuncId} {r : V} (h1 : r.msls = []) (h2 : r.refs = []) (H : Heap) : leave X f 0 r H = (r, []) := by
  have hres : (if X.keepRes f = true then (r, []) else resolve H 6 r) = (r, ([] : List Nat)) := by
    split
    · rfl
    · unfold resolve; rw [h1]
  have hrl : refsL [r] = [] := by simp [refsL, h2]
  unfold leave
  rw [hres]
  simp only [freezeRows, List.foldl_nil, canon, List.range_zero, List.nil_append, hrl, reach, List.isEmpty_nil, if_true, List.filter_nil]
  by_cases hH : H = []
  · simp [hH]
  · have : ¬ (H.length = 0) := by simpa using hH
    simp [this, renL, subHeap, ren_id _ _ h2]
theorem lv_bool {X : Ctx} {f : FuncId} (b : Bool) (H : Heap) : leave X f 0 (.bool b) H = (.bool b, []) := leave_pure (by simp [V.msls]) (by simp [V.refs]) H

/- the functions -/
def inB (n : Int) : Bool := decide (n ≥ 1) && decide (n ≤ 255)
end Go.Ev
