/- A part of the proof of ReportBack (the second form: what is handed in is of bulk at most 1048576): no statement of the seat's stands here. -/
import Derived.Test.YtoppmjanignfdaaDoorRb
set_option linter.unusedSectionVars false
set_option linter.unusedSimpArgs false
set_option linter.unusedVariables false
set_option linter.all false
/- The kit for symbolic runs over the program of the Report laws. -/
set_option linter.unusedVariables false
set_option linter.unusedSimpArgs false
set_option maxRecDepth 10000
namespace Go.Ev
open Go Go.Proofs

/-- Contexts over the program that keep nothing. -/
class Prg (X : Ctx) : Prop where
  P : X.P = Tryd.prog
  l : ∀ f, X.keepSlots f = []
  k : ∀ f, X.keepRes f = false
  x : ∀ f, X.ext f = XR.ext f
instance : Prg XR := ⟨rfl, fun _ => rfl, fun _ => rfl, fun _ => rfl⟩
instance {X : Ctx} [h : Prg X] (f F) : Prg (X.hook f F) := ⟨h.P, h.l, h.k, h.x⟩
instance : Prg X1 := inferInstanceAs (Prg (XR.hook 48 F48))
instance : Prg X2 := inferInstanceAs (Prg (X1.hook 47 F47))
section
variable {X : Ctx} [h : Prg X]
theorem und_p (t : TypeId) : und X t = Tryd.prog.underlying t := by unfold und; rw [h.P]
theorem size_p (t : TypeId) : size X t = size XR t := by unfold size; rw [h.P]; rfl
theorem bytesOf_p (t : TypeId) : bytesOf X t = bytesOf XR t := by unfold bytesOf; rw [h.P]; rfl
theorem zeroV_p (t : TypeId) : zeroV X t = zeroV XR t := by unfold zeroV; rw [h.P]; rfl
theorem aggT_p (t : TypeId) : aggT X t = aggT XR t := by unfold aggT und; rw [h.P]; rfl
theorem funcs_p : X.P.funcs = Tryd.prog.funcs := by rw [h.P]
end
theorem size3 : size XR 3 = some 1 := by kernel_rfl
theorem size9 : size XR 9 = some 1 := by kernel_rfl
theorem size22 : size XR 22 = some 1 := by kernel_rfl
theorem size24 : size XR 24 = some 2 := by kernel_rfl
theorem size25 : size XR 25 = some 1 := by kernel_rfl
theorem size27 : size XR 27 = some 5 := by kernel_rfl
theorem size28 : size XR 28 = some 1 := by kernel_rfl
theorem size29 : size XR 29 = some 1 := by kernel_rfl
theorem size31 : size XR 31 = some 8 := by kernel_rfl
theorem size40 : size XR 40 = some 1 := by kernel_rfl
theorem size42 : size XR 42 = some 3 := by kernel_rfl
theorem size47 : size XR 47 = some 3 := by kernel_rfl
theorem agg3 : aggT XR 3 = some false := by kernel_rfl
theorem agg9 : aggT XR 9 = some false := by kernel_rfl
theorem agg22 : aggT XR 22 = some false := by kernel_rfl
theorem agg24 : aggT XR 24 = some true := by kernel_rfl
theorem agg25 : aggT XR 25 = some false := by kernel_rfl
theorem agg27 : aggT XR 27 = some true := by kernel_rfl
theorem agg28 : aggT XR 28 = some false := by kernel_rfl
theorem agg29 : aggT XR 29 = some false := by kernel_rfl
theorem agg31 : aggT XR 31 = some true := by kernel_rfl
theorem agg40 : aggT XR 40 = some false := by kernel_rfl
theorem agg42 : aggT XR 42 = some true := by kernel_rfl
theorem agg47 : aggT XR 47 = some true := by kernel_rfl
theorem bytesOf3 : bytesOf XR 3 = some 8 := by kernel_rfl
theorem bytesOf9 : bytesOf XR 9 = some 16 := by kernel_rfl
theorem bytesOf42 : bytesOf XR 42 = some 40 := by kernel_rfl
theorem bytesOf47 : bytesOf XR 47 = some 24 := by kernel_rfl
theorem zeroV3 : zeroV XR 3 = some (.int .i64 0) := by kernel_rfl
theorem zeroV9 : zeroV XR 9 = some (.str []) := by kernel_rfl
theorem zeroV24 : zeroV XR 24 = some (.agg [.int .i64 0, .int .i64 0]) := by kernel_rfl
theorem zeroV27 : zeroV XR 27 = some (.agg [.int .i64 0, .int .i64 0, .int .i64 0, .int .i64 0, .nilsl]) := by kernel_rfl
theorem zeroV31 : zeroV XR 31 = some (.agg [.int .i64 0, .int .i64 0, .int .i64 0, .int .i64 0, .nilsl, .int .i64 0, .nilsl, .nilsl]) := by kernel_rfl
theorem zeroV42 : zeroV XR 42 = some (.agg [.int .i64 0, .int .i64 0, .nilsl]) := by kernel_rfl
theorem zeroV47 : zeroV XR 47 = some (.agg [.int .i64 0, .int .i64 0, .int .i64 0]) := by kernel_rfl

theorem wrapI64 {n : Int} (h0 : -9223372036854775808 ≤ n) (h1 : n < 9223372036854775808) : IntKind.i64.wrap n = n := by
  simp [IntKind.wrap, IntKind.bits, IntKind.signed]; omega

def slT (t : TypeId) : Bool := t == 25 || t == 28 || t == 29 || t == 40 || t == 51 || t == 78
theorem und25 : ∃ e, Tryd.prog.underlying 25 = some (.slice e) := ⟨_, Tryd.underlying25⟩
section
variable {X : Ctx} [h : Prg X]
theorem slT_und {t : TypeId} (ht : slT t = true) : ∃ e, und X t = some (.slice e) := by
  rw [und_p]
  simp only [slT, Bool.or_eq_true, beq_iff_eq] at ht
  rcases ht with ((((rfl | rfl) | rfl) | rfl) | rfl) | rfl
  · exact und25
  · exact ⟨_, Tryd.underlying28⟩
  · exact ⟨_, Tryd.underlying29⟩
  · exact ⟨_, Tryd.underlying40⟩
  · exact ⟨_, Tryd.underlying51⟩
  · exact ⟨_, Tryd.underlying78⟩
theorem len9 (s : List UInt8) (H : Heap) : lenV X 9 (.str s) H = some { v := .int .i64 s.length } := by simp [lenV, und_p, Tryd.underlying9]
theorem len_nil {t : TypeId} (H : Heap) (ht : slT t = true) : lenV X t .nilsl H = some { v := .int .i64 0 } := by
  obtain ⟨e, he⟩ := slT_und (X := X) ht
  simp [lenV, he]
theorem len_slz {t : TypeId} (H : Heap) (ht : slT t = true) : lenV X t .slz H = some { v := .int .i64 0 } := by
  obtain ⟨e, he⟩ := slT_und (X := X) ht
  simp [lenV, he]
theorem len_sl {t : TypeId} (sz n : Nat) (cs : List V) (H : Heap) (ht : slT t = true) : lenV X t (.sl sz n cs) H = some { v := .int .i64 n } := by
  obtain ⟨e, he⟩ := slT_und (X := X) ht
  simp [lenV, he]
theorem len_msl {t : TypeId} (b ver o sz n : Nat) (H : Heap) (ht : slT t = true) : lenV X t (.msl b ver o sz n) H = some { v := .int .i64 n } := by
  obtain ⟨e, he⟩ := slT_und (X := X) ht
  simp [lenV, he]
end

theorem refsL_app' : ∀ a b : List V, refsL (a ++ b) = refsL a ++ refsL b
  | [], b => by simp [refsL]
  | x :: r, b => by simp [refsL, refsL_app' r b]
theorem renL_app' (m : Nat → Option Nat) : ∀ a b : List V, renL m (a ++ b) = renL m a ++ renL m b
  | [], b => by simp [renL]
  | x :: r, b => by simp [renL, renL_app' m r b]
theorem mslsL_app' : ∀ a b : List V, mslsL (a ++ b) = mslsL a ++ mslsL b
  | [], b => by simp [mslsL]
  | x :: r, b => by simp [mslsL, mslsL_app' r b]

/- heads -/
def canonK (tm : List V) (H : Heap) : Option (List Nat) → St
  | none => ⟨tm, H⟩
  | some l => if H.length = l.length && l == List.range l.length then ⟨tm, H⟩ else ⟨renL (indexOf · l 0) tm, subHeap H l⟩
def hd (L : List Nat) (tm : List V) (H : Heap) : St := canonK (clearTm L tm) H (reach H (refsL (clearTm L tm)))
theorem canon_K (tm : List V) (H : Heap) : (⟨(canon 0 tm H).1, (canon 0 tm H).2⟩ : St) = canonK tm H (reach H (refsL tm)) := by
  unfold canon canonK
  simp only [List.range_zero, List.nil_append]
  cases reach H (refsL tm) with
  | none => rfl
  | some l =>
    have hf : List.filter (fun b => decide (0 ≤ b)) l = l := List.filter_eq_self.2 (by simp)
    simp only [hf]
    split <;> rfl
theorem head_hd {X : Ctx} {f : FuncId} {body : Code} {L : List Nat} (hc : clears (X.keepSlots f) body = L) (st : St) : head X f 0 body st = hd L st.tm st.H := by
  unfold head hd
  rw [hc, ← canon_K]
theorem hd_none {L : List Nat} {tm tm' : List V} {H : Heap} (h1 : clearTm L tm = tm') (h2 : refsL tm' = []) : hd L tm H = ⟨tm', []⟩ := by
  unfold hd
  rw [h1, h2]
  simp only [reach, List.isEmpty_nil, if_true, canonK]
  cases H with
  | nil => simp
  | cons x r => simp [renL_id _ _ h2, subHeap]

def hdS (L : List Nat) (st : St) : St := hd L st.tm st.H
theorem hdS_mk (L : List Nat) (tm : List V) (H : Heap) : hdS L ⟨tm, H⟩ = canonK (clearTm L tm) H (reach H (refsL (clearTm L tm))) := rfl
theorem canonK_some (tm : List V) (H : Heap) (l : List Nat) : canonK tm H (some l) = if H.length = l.length && l == List.range l.length then ⟨tm, H⟩ else ⟨renL (indexOf · l 0) tm, subHeap H l⟩ := rfl
theorem reach_nil (H : Heap) : reach H [] = some [] := rfl
theorem reach_cons (H : Heap) (b : Nat) (l : List Nat) : reach H (b :: l) = reachGo H 10000 (b :: l) [] := rfl
def lastK {γ : Type} (K : Option (Ex × St) → Option γ) : Option (Ex × St) → Option γ
  | none => none
  | some (.normal, _) => none
  | some r => K (some r)
section
variable {γ : Type} {K : Option (Ex × St) → Option γ}
theorem lastK_ret (st) : lastK K (some (.ret, st)) = K (some (.ret, st)) := rfl
theorem lastK_exit (i st) : lastK K (some (.exit i, st)) = K (some (.exit i, st)) := rfl
end
def mapHd (L : List Nat) : Option (Ex × St) → Option (Ex × St)
  | some (e, st) => some (e, hdS L st)
  | none => none
theorem mapHd_some (L : List Nat) (e : Ex) (st : St) : mapHd L (some (e, st)) = some (e, hdS L st) := rfl
/-- A loop by rounds, and what stands behind it. -/
theorem loop_run {X : Ctx} {f : FuncId} {body : Code} {L : List Nat} (hL : clears (X.keepSlots f) body = L) {α γ : Type} (S : α → St) (Inv : α → Prop) (μ : α → Nat) (res : α → γ) (K : Option (Ex × St) → Option γ) (c : Nat)
    (hstep : ∀ a, Inv a → (∃ a', Inv a' ∧ μ a' < μ a ∧ res a' = res a ∧ ∀ m, mapHd L (evCode X (m + c) f 0 body (S a)) = some (.normal, S a')) ∨
      (∀ m, lastK K (evCode X (m + c) f 0 body (S a)) = some (res a))) :
    ∀ (k : Nat) (a : α) (st : St), μ a ≤ k → Inv a → hdS L st = S a → K (evCode X (k + c + 1) f 0 (.loop body) st) = some (res a) := by
  have hlast : ∀ (n : Nat) (a : α) (st : St), hdS L st = S a → lastK K (evCode X n f 0 body (S a)) = some (res a) → K (evCode X (n + 1) f 0 (.loop body) st) = some (res a) := by
    intro n a st hs h
    rw [evCode_loop, head_hd hL]
    have hs' : hd L st.tm st.H = S a := hs
    rw [hs']
    revert h
    cases evCode X n f 0 body (S a) with
    | none => intro h; exact absurd h (by simp [lastK])
    | some r =>
      obtain ⟨ex, st'⟩ := r
      cases ex with
      | normal => intro h; exact absurd h (by simp [lastK])
      | ret => exact fun h => h
      | exit i => exact fun h => h
      | goto l => exact fun h => h
  intro k
  induction k with
  | zero =>
    intro a st hk hi hs
    rcases hstep a hi with ⟨a', _, h2, _⟩ | h2
    · omega
    · exact hlast (0 + c) a st hs (h2 0)
  | succ k ih =>
    intro a st hk hi hs
    rcases hstep a hi with ⟨a', h1, h2, h3, h4⟩ | h2
    · have h5 := h4 (k + 1)
      obtain ⟨st', e1, e2⟩ : ∃ st', evCode X (k + 1 + c) f 0 body (S a) = some (.normal, st') ∧ hdS L st' = S a' := by
        revert h5
        cases evCode X (k + 1 + c) f 0 body (S a) with
        | none => intro h; cases h
        | some x =>
          obtain ⟨ex, st'⟩ := x
          intro h
          simp only [mapHd, Option.some.injEq, Prod.mk.injEq] at h
          obtain ⟨rfl, h⟩ := h
          exact ⟨st', rfl, h⟩
      have := ih a' st' (by omega) h1 e2
      have hs' : hd L st.tm st.H = S a := hs
      rw [evCode_loop, head_hd hL, hs', e1]
      simp only
      rw [← h3, ← this, show k + 1 + c = k + c + 1 from by omega]
    · exact hlast (k + 1 + c) a st hs (h2 (k + 1))
def resultsR (X : Ctx) (res : Array ResultVar) (tm : List V) (H : Heap) : Option V := do
  let vs ← res.toList.mapM fun
    | .tmp t => some ((tm[t]?).getD .dead)
    | .cell a t => do
      let (cs, _) ← cellsAt H ((tm[a]?).getD .dead)
      takeV (← aggT X t) (← size X t) cs
  match vs with
  | [v] => some v
  | vs => some (.tuple vs)
def leaveR (X : Ctx) (f : FuncId) (pins : Nat) (H : Heap) : Option V → Option (V × Heap)
  | some r => some (leave X f pins r H)
  | none => none
def fin (X : Ctx) (res : Array ResultVar) (f : FuncId) (pins : Nat) : Option (Ex × St) → Option (V × Heap)
  | some (.normal, st) => leaveR X f pins st.H (resultsR X res st.tm st.H)
  | some (.ret, st) => leaveR X f pins st.H (resultsR X res st.tm st.H)
  | _ => none
section
variable {X : Ctx} {res : Array ResultVar} {f : FuncId} {p : Nat}
theorem fin_ret (st : St) : fin X res f p (some (.ret, st)) = leaveR X f p st.H (resultsR X res st.tm st.H) := rfl
theorem fin_normal (st : St) : fin X res f p (some (.normal, st)) = leaveR X f p st.H (resultsR X res st.tm st.H) := rfl
theorem leaveR_some (r : V) (H : Heap) : leaveR X f p H (some r) = some (leave X f p r H) := rfl
end
/-- A call of a function that has no hook. -/
theorem call_fn {X : Ctx} {rec : FuncId → Nat → Code → St → Option (Ex × St)} {f : FuncId} {fn : Func} {c : Code} {nt : Nat} {res : Array ResultVar} {args : List V} {H : Heap} (hs : X.spec f = none) (hf : X.P.funcs[f]? = some fn) (hb : fn.body = some c) (hn : fn.ntmps = nt) (hr : fn.results = res) :
    callWith X rec f args H = fin X res f H.length (rec f H.length c ⟨args ++ List.replicate (nt - args.length) .dead, H⟩) := by
  subst hn hr
  unfold callWith
  rw [hs]
  simp only
  rw [hf]
  simp only
  rw [hb]
  simp only
  cases rec f H.length c ⟨args ++ List.replicate (fn.ntmps - args.length) .dead, H⟩ with
  | none => rfl
  | some x =>
    obtain ⟨ex, st⟩ := x
    cases ex with
    | exit i => rfl
    | goto l => rfl
    | normal =>
      simp only [fin]
      show _ = leaveR X f H.length st.H (resultsV X fn st.tm st.H)
      cases resultsV X fn st.tm st.H <;> rfl
    | ret =>
      simp only [fin]
      show _ = leaveR X f H.length st.H (resultsV X fn st.tm st.H)
      cases resultsV X fn st.tm st.H <;> rfl
/-- A whole call, from its body's run. -/
theorem call_fin {X : Ctx} {n : Nat} {f : FuncId} {fn : Func} {c : Code} {nt : Nat} {res : Array ResultVar} {args : List V} {r : V × Heap} (hs : X.spec f = none) (hf : X.P.funcs[f]? = some fn) (hb : fn.body = some c) (hn : fn.ntmps = nt) (hr : fn.results = res)
    (hc : fin X res f 0 (evCode X n f 0 c ⟨args ++ List.replicate (nt - args.length) .dead, []⟩) = some r) : evCall X n f args [] = some r := by
  unfold evCall
  rw [call_fn hs hf hb hn hr]
  exact hc

/- regions whose order is drawn -/
def drawOk (ops : Array Oper) (n0 : Nat) (l : List Foot) : Bool := afterOk ops && allTurn ops (Region.before ops) l && l.all (wrOk n0 ops.size (Region.before ops))
def drawK (ops : Array Oper) (n0 : Nat) : Option (St × List Foot) → Option St
  | some (fin, l) => if drawOk ops n0 l = true then some fin else none
  | none => none
theorem evRegion_draw {X : Ctx} (call : CallFn) (ops : Array Oper) (st : St) : evRegion X call ops true st = drawK ops st.H.length (evTrace X call ops (fun i k => st.H.length + k * ops.size + i) (List.range' 0 ops.size) st) := by
  rw [← List.range_eq_range']
  unfold evRegion
  rw [if_pos rfl]
  simp only
  cases evTrace X call ops (fun i k => st.H.length + k * ops.size + i) (List.range ops.size) st with
  | none => rfl
  | some x => obtain ⟨a, l⟩ := x; rfl
theorem drawK_some (ops : Array Oper) (n0 : Nat) (fin : St) (l : List Foot) : drawK ops n0 (some (fin, l)) = if drawOk ops n0 l = true then some fin else none := rfl
def consK (f : Foot) : Option (St × List Foot) → Option (St × List Foot)
  | some (fin, l) => some (fin, f :: l)
  | none => none
theorem run_cons (f : Foot) (fin : St) (l : List Foot) : consK f (some (fin, l)) = some (fin, f :: l) := rfl
def traceK (X : Ctx) (call : CallFn) (ops : Array Oper) (fr : Nat → Nat → Nat) (i : Nat) (r : List Nat) : Option (St × List Nat × List Nat) → Option (St × List Foot)
  | some (st', rd, wr) => consK ⟨i, rd, wr⟩ (evTrace X call ops fr r st')
  | none => none
theorem run_traceK {X : Ctx} (call : CallFn) (ops fr i r st' rd wr) : traceK X call ops fr i r (some (st', rd, wr)) = consK ⟨i, rd, wr⟩ (evTrace X call ops fr r st') := rfl
theorem run_trace {X : Ctx} (call : CallFn) (ops fr i n st) : evTrace X call ops fr (List.range' i (n + 1)) st = traceK X call ops fr i (List.range' (i + 1) n) (evStep X call ops fr i st) := by
  rw [List.range'_succ]
  conv => lhs; unfold evTrace
  unfold traceK
  cases evStep X call ops fr i st with
  | none => rfl
  | some x =>
    obtain ⟨a, b, c⟩ := x
    simp only
    cases evTrace X call ops fr (List.range' (i + 1) n) a with
    | none => rfl
    | some y => obtain ⟨p, q⟩ := y; rfl
theorem run_trace0 {X : Ctx} (call : CallFn) (ops fr i st) : evTrace X call ops fr (List.range' i 0) st = some (st, []) := rfl

theorem run_traceN {X : Ctx} (call : CallFn) (ops fr st) : evTrace X call ops fr [] st = some (st, []) := rfl
theorem run_traceC {X : Ctx} (call : CallFn) (ops fr i r st) : evTrace X call ops fr (i :: r) st = traceK X call ops fr i r (evStep X call ops fr i st) := by
  conv => lhs; unfold evTrace
  unfold traceK
  cases evStep X call ops fr i st with
  | none => rfl
  | some x =>
    obtain ⟨a, b, c⟩ := x
    simp only
    cases evTrace X call ops fr r a with
    | none => rfl
    | some y => obtain ⟨p, q⟩ := y; rfl

/- calls -/
def callC (fresh : Nat → Nat) (H1 : Heap) (frz l : List Nat) : Option (V × Heap) → Option Res
  | none => none
  | some (r, H') =>
    if l.isEmpty && H'.isEmpty && r.flat then some { v := r, rd := frz }
    else if (H'.take l.length).all Option.isSome && l.length ≤ H'.length then
      some { v := r.ren ((l ++ (List.range (H'.length - l.length)).map fresh)[·]?), wr := (frz ++ (l ++ (List.range (H'.length - l.length)).map fresh)).filterMap (fun b => (mergeAt H1 H' (l ++ (List.range (H'.length - l.length)).map fresh) b).map fun x => (b, x)), rd := frz ++ (l ++ (List.range (H'.length - l.length)).map fresh) }
    else none
def callB (call : CallFn) (f : FuncId) (args : List V) (fresh : Nat → Nat) (H1 : Heap) (frz : List Nat) : Option (List Nat) → Option Res
  | none => none
  | some l => callC fresh H1 frz l (call f (renL (indexOf · l 0) args) (subHeap H1 l))
def callA (call : CallFn) (f : FuncId) (fresh : Nat → Nat) (H : Heap) : V × List Nat → Option Res
  | (.tuple args, frz) => callB call f args fresh (freezeRows H frz) frz (reach (freezeRows H frz) (refsL args))
  | _ => none
theorem run_callV {X : Ctx} {call : CallFn} {f : FuncId} {ags : List V} {fresh : Nat → Nat} {H : Heap} (hx : X.ext f = none) :
    callV X call f ags fresh H = callA call f fresh H (if X.mutArgs f then (V.tuple ags, []) else resolve H 4 (.tuple ags)) := by
  unfold callV
  rw [hx]
  simp only
  generalize (if X.mutArgs f = true then (V.tuple ags, []) else resolve H 4 (.tuple ags)) = avf
  obtain ⟨v, frz⟩ := avf
  cases v <;> simp only [callA]
  rename_i args
  cases reach (freezeRows H frz) (refsL args) with
  | none => rfl
  | some l =>
    simp only [callB]
    cases call f (renL (indexOf · l 0) args) (subHeap (freezeRows H frz) l) with
    | none => rfl
    | some x => obtain ⟨r, H'⟩ := x; simp only [callC]
theorem callA_tuple (call : CallFn) (f : FuncId) (fresh : Nat → Nat) (H : Heap) (args : List V) (frz : List Nat) : callA call f fresh H (.tuple args, frz) = callB call f args fresh (freezeRows H frz) frz (reach (freezeRows H frz) (refsL args)) := rfl
theorem callB_some (call : CallFn) (f : FuncId) (args : List V) (fresh : Nat → Nat) (H1 : Heap) (frz l : List Nat) : callB call f args fresh H1 frz (some l) = callC fresh H1 frz l (call f (renL (indexOf · l 0) args) (subHeap H1 l)) := rfl
theorem callC_some (fresh : Nat → Nat) (H1 : Heap) (frz l : List Nat) (r : V) (H' : Heap) : callC fresh H1 frz l (some (r, H')) = if l.isEmpty && H'.isEmpty && r.flat then some { v := r, rd := frz }
    else if (H'.take l.length).all Option.isSome && l.length ≤ H'.length then
      some { v := r.ren ((l ++ (List.range (H'.length - l.length)).map fresh)[·]?), wr := (frz ++ (l ++ (List.range (H'.length - l.length)).map fresh)).filterMap (fun b => (mergeAt H1 H' (l ++ (List.range (H'.length - l.length)).map fresh) b).map fun x => (b, x)), rd := frz ++ (l ++ (List.range (H'.length - l.length)).map fresh) }
    else none := rfl
theorem flat_ren {v : V} (h : v.refs = []) (m : Nat → Option Nat) : v.ren m = v := ren_id m v h
/-- A call whose arguments lean on no block of ours, and whose answer doesn't either. -/
theorem callV_pure {X : Ctx} {call : CallFn} {f : FuncId} {ags : List V} {fresh : Nat → Nat} {H : Heap} {r : V} (hx : X.ext f = none) (h1 : mslsL ags = []) (h2 : refsL ags = []) (hc : call f ags [] = some (r, [])) (hf : r.refs = []) :
    callV X call f ags fresh H = some { v := r } := by
  have hav : (if X.mutArgs f = true then (V.tuple ags, []) else resolve H 4 (.tuple ags)) = (V.tuple ags, ([] : List Nat)) := by
    split
    · rfl
    · have : (V.tuple ags).msls = [] := by unfold V.msls; exact h1
      unfold resolve
      rw [this]
  rw [run_callV hx, hav]
  simp only [callA, freezeRows, List.foldl_nil, h2, reach, List.isEmpty_nil, if_true, callB, subHeap, List.map_nil, renL_id _ _ h2, hc, callC]
  split
  · rfl
  · simp [ren_id _ _ hf]
theorem call_hook {X : Ctx} {rec : FuncId → Nat → Code → St → Option (Ex × St)} {f : FuncId} {F} (hs : X.spec f = some F) (args : List V) (H : Heap) : callWith X rec f args H = F args H := by
  unfold callWith; rw [hs]

theorem leave_pure {X : Ctx} {f : FuncId} {r : V} (h1 : r.msls = []) (h2 : r.refs = []) (H : Heap) : leave X f 0 r H = (r, []) := by
  rcases leave_flat (X := X) (f := f) h1 h2 H with h | h <;> rw [h]
  rw [ren_id _ _ h2]
end Go.Ev
