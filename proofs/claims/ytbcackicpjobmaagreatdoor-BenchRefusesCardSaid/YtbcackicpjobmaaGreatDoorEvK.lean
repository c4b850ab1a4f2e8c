/- A part of the proof of BenchRefuses: no statement of the seat's stands here. -/
import Derived.Carry
import Derived.WalkKit
import Derived.ProofKit
import Derived.OpenShut
import Derived.Deep.DeepHandedRow
import Derived.Test.YtbcackicpjobmaaGreatDoorEvJ
set_option linter.unusedSectionVars false
set_option linter.unusedSimpArgs false
set_option linter.unusedVariables false
set_option linter.all false
/- From the evaluator's answer to a row's statement. -/
set_option linter.unusedSectionVars false
set_option linter.unusedVariables false
namespace Go.Ev
open Go Go.ChangeShapes Go.WideShapes Go.RowKit

theorem own_nil {ρ : Rho} {a : Addr} : ¬ Own ρ [] a := by
  rintro ⟨b, cs, ver, p, j, h, _⟩
  simp [Heap.get] at h
theorem ownObj_nil {ρ : Rho} {r : Nat} : ¬ OwnObj ρ [] r := by
  rintro ⟨b, x, p, h, _⟩
  simp [Heap.get] at h

theorem Evo.below {w w' : World} {M M' : Mem} {ρ ρ' : Rho} {H' : Heap} (h : Evo w M ρ [] w' M' ρ' H') : Below w.heap.size w w' :=
  ⟨h.kept.os, h.kept.tape, h.kept.output, h.kept.size, fun k hk => h.kept.blk k hk (fun _ _ => own_nil) ownObj_nil⟩

/-- All that a world's cells hold. -/
def cellsOfW (W : World) : Mem := fun a => W.cell? a
def noRho : Rho := fun _ => none
theorem HRel.start (W : World) : HRel (cellsOfW W) W (cellsOfW W) noRho [] := by
  refine ⟨Mem.le_refl _, fun _ _ h => h, fun b => by simp [noRho, Heap.get], fun b x p h => by simp [Heap.get] at h, fun b b' a h => ?_, fun b b' r h => ?_, fun b p t h => by simp [noRho] at h, fun b p h => by simp [noRho] at h⟩
  · exact absurd ⟨b, h⟩ own_nil
  · exact absurd ⟨b, h⟩ ownObj_nil

/-- What the evaluator answers, the program answers, whatever the world. -/
theorem evCall_calls {X : Ctx} {W : World} (hm : X.P.follows .mixedOrders = true) (hX : CtxOK X (cellsOfW W)) (hN : NamesOK X.P) (hS : SpecOK X (cellsOfW W)) {n : Nat} {f : FuncId} {args : List V} {r : V} {H' : Heap} (h : evCall X n f args [] = some (r, H'))
    {cargs : Array Value} (ha : LRel (cellsOfW W) noRho args cargs.toList) (hne : f ≠ yieldId := by decide) :
    Calls X.P f cargs W fun e w' => ∃ c M' ρ', e = .returned c ∧ VRel M' ρ' r c ∧ Below W.heap.size W w' ∧ HRel (cellsOfW W) w' M' ρ' H' := by
  obtain ⟨_, hc⟩ := (evCall_sound hm hX hN hS n f args [] r H' h).1 hne
  refine (hc W _ noRho cargs (HRel.start W) ha).mono fun e w' he => ?_
  obtain ⟨c, M', ρ', h1, h2, h3, h4, _⟩ := he
  exact ⟨c, M', ρ', h1, h3, h4.below, h2⟩

section
variable {Hh : Type} {enc : TypeId × Value → Hh} {P : Program}

theorem trodAll_stays (hl : laidOutB P = true) {W W' : World} (hb : Below W.heap.size W W') {sp : Nat → Bool} : ∀ {ts : List TypeId} {vs : List Value} {ds : List (DataW Hh)} {ps : List MemPlace},
    (∀ t ∈ ts, P.readableRec t = true ∧ t < P.types.size) → DataW.TrodAll enc P W 0 (fun _ => true) true ts vs ds ps → (∀ x ∈ ps, x.block < W.heap.size) → (∀ x ∈ ps, sp x.block = true) →
    DataW.TrodAll enc P W' 0 sp true ts vs ds ps
  | [], vs, ds, ps, _, h, _, _ => by
    obtain ⟨rfl, rfl, rfl⟩ := trodAll_nil h
    exact rfl
  | t :: ts, vs, ds, ps, ht, h, hlt, hsp => by
    obtain ⟨v, vs1, d, ds1, p, q, rfl, rfl, rfl, h1, h2⟩ := trodAll_cons h
    obtain ⟨hr, hrow⟩ := ht t List.mem_cons_self
    refine trodAll_cons_mk ?_ (trodAll_stays hl hb (fun t h => ht t (List.mem_cons_of_mem _ h)) h2 (fun x hx => hlt x (List.mem_append.2 (.inr hx))) (fun x hx => hsp x (List.mem_append.2 (.inr hx))))
    exact WideElems.Trod_stays hl hr hrow h1 (fun x hx => hb.same (hlt x (List.mem_append.2 (.inl hx)))) (fun x hx => hsp x (List.mem_append.2 (.inl hx)))

/-- The end of a call that has turned nothing, and answers true. -/
theorem post_of_below {f : Func} {s : ChangeSpec} {apart fresh handsOn again : Bool} {W W' : World} {args : Array Value} {ds gs : List (DataW Hh)} {before : List MemPlace} {tb : TypeId}
    (hl : laidOutB P = true) (hts : ∀ t ∈ f.params.toList, P.readableRec t = true ∧ t < P.types.size) (hvars : s.vars = []) (hres : f.resultTypes = #[tb]) (htb : P.underlying tb = some .bool)
    (hfn : (s.fn Hh ds).results = [.lit (.bool true)] ∧ (s.fn Hh ds).args = ds ∧ (s.fn Hh ds).vars = [])
    (hW : DataW.Whole enc P f.params.toList s.vars apart W args.toList ds gs before) (hb : Below W.heap.size W W') :
    s.post enc P f apart fresh handsOn again W args (.bool true) W' := by
  have hW0 := hW
  obtain ⟨pa, pv, hA, hV, hbef, hz, hnd⟩ := hW
  rw [hvars] at hV
  obtain ⟨rfl, rfl⟩ := trodVars_none hV
  rw [List.append_nil] at hbef
  subst hbef
  have hlt : ∀ x ∈ before, x.block < W.heap.size := fun x hx => by simpa using hW0.lt x hx
  have hargs : ∀ sp : Nat → Bool, (∀ x ∈ before, sp x.block = true) → DataW.TrodAll enc P W' 0 sp true f.params.toList args.toList (s.fn Hh (ds ++ [])).args before := fun sp hsp => by
    rw [List.append_nil, hfn.2.1]
    exact trodAll_stays hl hb hts hA hlt hsp
  have hvar : ∀ sp : Nat → Bool, DataW.TrodVars enc P W' sp s.vars (s.fn Hh (ds ++ [])).vars [] := fun sp => by
    rw [List.append_nil, hfn.2.2, hvars]
    simp [DataW.TrodVars]
  have hre : ∀ (b : Nat) (sp : Nat → Bool) (hd : Bool), DataW.TrodAll enc P W' b sp hd f.resultTypes.toList ((Value.bool true).resultList f.resultTypes.size) (s.fn Hh (ds ++ [])).results [] := fun b sp hd => by
    rw [List.append_nil, hfn.1, hres]
    have h1 : DataW.Trod enc P W' b sp hd tb (.bool true) (.lit (.bool true)) [] := ⟨1, by simp [DataW.trod, Value.cells, htb]⟩
    exact trodAll_cons_mk h1 trodAll_mk0
  have hok : ∀ (j : Nat) (t : TypeId) (r : Value), f.resultTypes[j]? = some t → ((Value.bool true).resultList f.resultTypes.size)[j]? = some r → Value.okWide P W' .any 0 t r := by
    intro j t r h1 h2
    rw [hres] at h1 h2
    cases j with
    | zero =>
      simp at h1
      subst h1
      have : r = .bool true := by simpa [Value.resultList] using h2.symm
      subst this
      simp [Value.okWide, htb, Cell.okWide, Cell.ok]
    | succ j => simp at h1
  have hold : ∀ p ∈ before, (fun b => decide (b < W.heap.size)) p.block = true := fun p hp => by simpa using hlt p hp
  refine ⟨ds, [], before, [], before, [], hW0, hre _ _ _, hargs _ hold, hvar _, hb.frame _, fun _ => ?_⟩
  refine ⟨hok, _, _, ([] ++ before) ++ [], ⟨[] ++ before, [], trodAll_append (hargs _ (fun _ _ => rfl)) (hre _ _ _), hvar _, rfl, ?_, ?_⟩, ?_⟩
  · intro b off hp
    have hp' : MemPlace.cell b off ∈ before := by simpa using hp
    rw [hb.frozen (hlt _ hp')]
    exact hz b off hp'
  · intro ha
    simpa using hnd ha
  · intro p hp _
    simpa using hp
end
end Go.Ev
/- Rules for symbolic runs. -/
namespace Go.Ev
open Go
section
variable {X : Ctx}
theorem evCode_skip (n f p st) : evCode X (n + 1) f p .skip st = some (.normal, st) := rfl
theorem evCode_ret (n f p st) : evCode X (n + 1) f p .ret st = some (.ret, st) := rfl
theorem evCode_exit (n f p id st) : evCode X (n + 1) f p (.exit id) st = some (.exit id, st) := rfl
theorem evCode_seq (n f p a b st) : evCode X (n + 1) f p (.seq a b) st = match evCode X n f p a st with
  | some (.normal, st') => evCode X n f p b st'
  | r => r := rfl
theorem evCode_region (n f p i ops d st) : evCode X (n + 1) f p (.region i ops d) st = (evRegion X (callWith X (evCode X n)) ops d st).map fun st => (.normal, st) := rfl
theorem evCode_cond (n f p c a b st) : evCode X (n + 1) f p (.cond c a b) st = match opd X st.tm c with
  | .bool true => evCode X n f p a st
  | .bool false => evCode X n f p b st
  | _ => none := rfl
theorem evCode_block (n f p i c st) : evCode X (n + 1) f p (.block i c) st = match evCode X n f p c st with
  | some (.exit id', st') => if id' = i then some (.normal, st') else some (.exit id', st')
  | r => r := rfl
theorem evCode_loop (n f p c st) : evCode X (n + 1) f p (.loop c) st = match evCode X n f p c (head X f p c st) with
  | some (.normal, st') => evCode X n f p (.loop c) st'
  | r => r := rfl
theorem evRegion_seq (call ops st) : evRegion X call ops false st = evSeq X call ops ops.size 0 st := rfl
theorem evSeq_zero (call ops i st) : evSeq X call ops 0 i st = some st := rfl
theorem evSeq_succ (call ops n i st) : evSeq X call ops (n + 1) i st = match evStep X call ops (fun _ k => st.H.length + k) i st with
  | some (st', _) => evSeq X call ops n (i + 1) st'
  | none => none := rfl
theorem evCall_body {n f fn c args H ex st r} (hs : X.spec f = none) (hf : X.P.funcs[f]? = some fn) (hb : fn.body = some c)
    (hc : evCode X n f H.length c ⟨args ++ List.replicate (fn.ntmps - args.length) .dead, H⟩ = some (ex, st)) (hex : ex = .normal ∨ ex = .ret) (hr : resultsV X fn st.tm st.H = some r) (hne : f ≠ yieldId := by decide) :
    evCall X n f args H = some (leave X f H.length r st.H) := by
  unfold evCall callWith
  rw [if_neg hne, hs]
  simp only
  rw [hf]
  simp only
  rw [hb]
  simp only
  rw [hc]
  rcases hex with rfl | rfl <;> simp only <;> rw [hr]

def Ctx.hook (X : Ctx) (f : FuncId) (F : List V → Heap → Option (V × Heap)) : Ctx :=
  Ctx.mk X.P X.glob (fun g => if g = f then some F else X.spec g) X.ext X.mutArgs X.keepRes X.keepSlots X.typed
/-- A context that speaks true, whatever the world. -/
structure Good (X : Ctx) : Prop where
  mixed : X.P.follows .mixedOrders = true
  names : NamesOK X.P
  ctx : ∀ W, CtxOK X (cellsOfW W)
  hooks : ∀ W, SpecOK X (cellsOfW W)
theorem Good.calls (h : Good X) {n : Nat} {f : FuncId} {args : List V} {H H' : Heap} {r : V} (he : evCall X n f args H = some (r, H')) (W : World) (hne : f ≠ yieldId := by decide) : Enters X.P f ∧ CallOK X.P (cellsOfW W) f args H r H' :=
  (evCall_sound h.mixed (h.ctx W) h.names (h.hooks W) n f args H r H' he).1 hne
theorem Good.hook (h : Good X) {f : FuncId} {F : List V → Heap → Option (V × Heap)} (hF : ∀ args H r H', F args H = some (r, H') → ∃ n, evCall X n f args H = some (r, H')) (hne : f ≠ yieldId := by decide) : Good (X.hook f F) := by
  refine ⟨h.mixed, h.names, fun W => ⟨(h.ctx W).glob, (h.ctx W).ext⟩, fun W g G hG args H r H' hr => ?_⟩
  have hG' : (if g = f then some F else X.spec g) = some G := hG
  split at hG'
  · rename_i e
    subst e
    cases hG'
    obtain ⟨n, hn⟩ := hF args H r H' hr
    exact h.calls hn W hne
  · exact h.hooks W g G hG' args H r H' hr
theorem Good.run (h : Good X) {n : Nat} {f : FuncId} {args : List V} {r : V} {H' : Heap} (he : evCall X n f args [] = some (r, H')) (W : World) {cargs : Array Value} (ha : LRel (cellsOfW W) noRho args cargs.toList) (hne : f ≠ yieldId := by decide) :
    Calls X.P f cargs W fun e w' => ∃ c M' ρ', e = .returned c ∧ VRel M' ρ' r c ∧ RowKit.Below W.heap.size W w' ∧ HRel (cellsOfW W) w' M' ρ' H' :=
  evCall_calls h.mixed (h.ctx W) h.names (h.hooks W) he ha hne

/- runs that stop where they are stuck -/
def seqK (X : Ctx) (call : CallFn) (ops : Array Oper) (n i : Nat) : Option (St × List Nat × List Nat) → Option St
  | some (st', _) => evSeq X call ops n (i + 1) st'
  | none => none
theorem run_seqs (call ops n i st) : evSeq X call ops (n + 1) i st = seqK X call ops n i (evStep X call ops (fun _ k => st.H.length + k) i st) := rfl
theorem run_seqK (call ops n i st' x) : seqK X call ops n i (some (st', x)) = evSeq X call ops n (i + 1) st' := rfl
def stepR (o : Oper) (st : St) : Option Res → Option (St × List Nat × List Nat)
  | some r => some (⟨putTm st.tm o.dst r.v, putAll st.H r.wr⟩, r.rd, r.wr.map (·.1))
  | none => none
def stepK (X : Ctx) (call : CallFn) (o : Oper) (fresh : Nat → Nat) (st : St) : Option Bool → Option (St × List Nat × List Nat)
  | some true => stepR o st (evOp X call o fresh st.tm st.H)
  | some false => some (⟨putTm st.tm o.dst (.tuple []), st.H⟩, [], [])
  | none => none
def stepO (X : Ctx) (call : CallFn) (ops : Array Oper) (fresh : Nat → Nat) (st : St) : Option Oper → Option (St × List Nat × List Nat)
  | some o => stepK X call o fresh st (wantedV ops o st.tm)
  | none => none
theorem run_step (call ops fr i st) : evStep X call ops fr i st = stepO X call ops (fr i) st ops[i]? := by
  unfold evStep stepO stepK stepR
  cases ops[i]? with
  | none => rfl
  | some o =>
    simp only
    cases wantedV ops o st.tm with
    | none => rfl
    | some b => cases b <;> simp only <;> cases evOp X call o (fr i) st.tm st.H <;> rfl
theorem run_stepO (call ops fr st o) : stepO X call ops fr st (some o) = stepK X call o fr st (wantedV ops o st.tm) := rfl
theorem run_stepK_true (call o fr st) : stepK X call o fr st (some true) = stepR o st (evOp X call o fr st.tm st.H) := rfl
theorem run_stepK_false (call o fr st) : stepK X call o fr st (some false) = some (⟨putTm st.tm o.dst (.tuple []), st.H⟩, [], []) := rfl
theorem run_stepR (o st r) : stepR o st (some r) = some (⟨putTm st.tm o.dst r.v, putAll st.H r.wr⟩, r.rd, r.wr.map (·.1)) := rfl
def thenK (X : Ctx) (n : Nat) (f : FuncId) (p : Nat) (b : Code) : Option (Ex × St) → Option (Ex × St)
  | some (.normal, st') => evCode X n f p b st'
  | r => r
theorem run_seq (n f p a b st) : evCode X (n + 1) f p (.seq a b) st = thenK X n f p b (evCode X n f p a st) := by
  show (match evCode X n f p a st with | some (.normal, st') => evCode X n f p b st' | r => r) = _
  unfold thenK; rfl
theorem run_then (n f p b st) : thenK X n f p b (some (.normal, st)) = evCode X n f p b st := rfl
theorem run_then_ret (n f p b st) : thenK X n f p b (some (.ret, st)) = some (.ret, st) := rfl
theorem run_then_exit (n f p b id st) : thenK X n f p b (some (.exit id, st)) = some (.exit id, st) := rfl
def condK (X : Ctx) (n : Nat) (f : FuncId) (p : Nat) (a b : Code) (st : St) : V → Option (Ex × St)
  | .bool true => evCode X n f p a st
  | .bool false => evCode X n f p b st
  | _ => none
theorem run_cond (n f p c a b st) : evCode X (n + 1) f p (.cond c a b) st = condK X n f p a b st (opd X st.tm c) := rfl
theorem run_cond_true (n f p a b st) : condK X n f p a b st (.bool true) = evCode X n f p a st := rfl
theorem run_cond_false (n f p a b st) : condK X n f p a b st (.bool false) = evCode X n f p b st := rfl
def blockK (i : Nat) : Option (Ex × St) → Option (Ex × St)
  | some (.exit id', st') => if id' = i then some (.normal, st') else some (.exit id', st')
  | r => r
theorem run_block (n f p i c st) : evCode X (n + 1) f p (.block i c) st = blockK i (evCode X n f p c st) := rfl
theorem run_block_exit (i id st) : blockK i (some (.exit id, st)) = if id = i then some (.normal, st) else some (.exit id, st) := rfl
theorem run_block_ret (i st) : blockK i (some (.ret, st)) = some (.ret, st) := rfl
theorem run_block_normal (i st) : blockK i (some (.normal, st)) = some (.normal, st) := rfl
def regionK : Option St → Option (Ex × St)
  | some st => some (.normal, st)
  | none => none
theorem run_region (n f p i ops d st) : evCode X (n + 1) f p (.region i ops d) st = regionK (evRegion X (callWith X (evCode X n)) ops d st) := by
  show (evRegion X (callWith X (evCode X n)) ops d st).map _ = _
  cases evRegion X (callWith X (evCode X n)) ops d st <;> rfl
theorem run_regionK (st) : regionK (some st) = some (.normal, st) := rfl

/- values without references -/
mutual
theorem ren_id (m : Nat → Option Nat) : ∀ v : V, v.refs = [] → v.ren m = v
  | .ptr .., h => by simp [V.refs] at h
  | .msl .., h => by simp [V.refs] at h
  | .map _, h => by simp [V.refs] at h
  | .iter _, h => by simp [V.refs] at h
  | .yield _, h => by simp [V.refs] at h
  | .tptr .., h => by simp [V.refs] at h
  | .tsl .., h => by simp [V.refs] at h
  | .tnil, _ => by unfold V.ren; rfl
  | .iptr cs, h => by unfold V.refs at h; unfold V.ren; rw [renL_id m cs h]
  | .sl _ _ cs, h => by unfold V.refs at h; unfold V.ren; rw [renL_id m cs h]
  | .func _ a b, h => by
    unfold V.refs at h
    simp only [List.append_eq_nil_iff] at h
    unfold V.ren; rw [renL_id m a h.1, renL_id m b h.2]
  | .iface _ v, h => by unfold V.refs at h; unfold V.ren; rw [ren_id m v h]
  | .agg cs, h => by unfold V.refs at h; unfold V.ren; rw [renL_id m cs h]
  | .tuple cs, h => by unfold V.refs at h; unfold V.ren; rw [renL_id m cs h]
  | .dead, _ => by unfold V.ren; rfl
  | .junk, _ => by unfold V.ren; rfl
  | .bool _, _ => by unfold V.ren; rfl
  | .int .., _ => by unfold V.ren; rfl
  | .str _, _ => by unfold V.ren; rfl
  | .nilptr, _ => by unfold V.ren; rfl
  | .nilsl, _ => by unfold V.ren; rfl
  | .slz, _ => by unfold V.ren; rfl
  | .nilmap, _ => by unfold V.ren; rfl
  | .nilfunc, _ => by unfold V.ren; rfl
  | .niliface, _ => by unfold V.ren; rfl
theorem renL_id (m : Nat → Option Nat) : ∀ l : List V, refsL l = [] → renL m l = l
  | [], _ => by unfold renL; rfl
  | v :: r, h => by
    unfold refsL at h
    simp only [List.append_eq_nil_iff] at h
    unfold renL
    rw [ren_id m v h.1, renL_id m r h.2]
end
/-- A call whose arguments lean on no block of ours, and whose answer leans on nothing. -/
theorem callV_flat {call : CallFn} {f : FuncId} {as : List V} {fresh : Nat → Nat} {H : Heap} {r : V} (hx : X.ext f = none) (h1 : mslsL as = []) (h2 : refsL as = []) (hc : call f as [] = some (r, [])) (hf : r.flat = true) (hne : f ≠ yieldId := by decide) :
    callV X call f as fresh H = some { v := r } := by
  have hav : (if X.mutArgs f = true then (V.tuple as, []) else resolve H 4 (.tuple as)) = (V.tuple as, ([] : List Nat)) := by
    split
    · rfl
    · have : (V.tuple as).msls = [] := by unfold V.msls; exact h1
      unfold resolve
      rw [this]
  unfold callV
  rw [hx]
  simp only
  rw [if_neg hne]
  unfold callP
  simp only
  rw [hav]
  simp only [h2, reach, List.isEmpty_nil, if_true, freezeRows, List.foldl_nil, subHeap, List.map_nil]
  rw [renL_id _ _ h2, hc]
  simp [hf]

/- loops -/
theorem loop_round {α : Type} {proj : Ex × St → α} {R : Option α} {n : Nat} {f : FuncId} {p : Nat} {c : Code} {st S S' : St} (hs : head X f p c st = S)
    (hb : (evCode X n f p c S).map (fun r => (r.1, head X f p c r.2)) = some (.normal, S')) (hn : ∀ st', head X f p c st' = S' → (evCode X n f p (.loop c) st').map proj = R) :
    (evCode X (n + 1) f p (.loop c) st).map proj = R := by
  obtain ⟨⟨e, st'⟩, h1, h2⟩ := Option.map_eq_some_iff.1 hb
  simp only [Prod.mk.injEq] at h2
  obtain ⟨rfl, h2⟩ := h2
  rw [evCode_loop, hs, h1]
  exact hn st' h2
theorem loop_last {β : Type} {g : St → β} {ex : Ex} {b : β} {n : Nat} {f : FuncId} {p : Nat} {c : Code} {st S : St} (hs : head X f p c st = S) (he : ex ≠ .normal)
    (hb : (evCode X n f p c S).map (fun r => (r.1, g r.2)) = some (ex, b)) : (evCode X (n + 1) f p (.loop c) st).map (fun r => (r.1, g r.2)) = some (ex, b) := by
  obtain ⟨⟨e, st'⟩, h1, h2⟩ := Option.map_eq_some_iff.1 hb
  simp only [Prod.mk.injEq] at h2
  obtain ⟨rfl, h2⟩ := h2
  rw [evCode_loop, hs, h1]
  cases e with
  | normal => exact absurd rfl he
  | exit id => simp [h2]
  | goto l => simp [h2]
  | ret => simp [h2]
theorem sc_int (k n) : (V.int k n).scalar = true := rfl
theorem sc_str (s) : (V.str s).scalar = true := rfl
theorem sc_bool (b) : (V.bool b).scalar = true := rfl
theorem sc_msl (b v o s l) : (V.msl b v o s l).scalar = true := rfl
theorem sc_sl (s l cs) : (V.sl s l cs).scalar = true := rfl
theorem sc_nilsl : V.nilsl.scalar = true := rfl
theorem sc_slz : V.slz.scalar = true := rfl
theorem ce_int (k n) : (V.int k n).cells = [V.int k n] := rfl
theorem ce_str (s) : (V.str s).cells = [V.str s] := rfl
theorem ce_bool (b) : (V.bool b).cells = [V.bool b] := rfl
theorem ce_agg (cs) : (V.agg cs).cells = cs := rfl
theorem ce_msl (b v o s l) : (V.msl b v o s l).cells = [V.msl b v o s l] := rfl
theorem ce_sl (s l cs) : (V.sl s l cs).cells = [V.sl s l cs] := rfl
theorem ce_nilsl : V.nilsl.cells = [V.nilsl] := rfl
end
end Go.Ev
