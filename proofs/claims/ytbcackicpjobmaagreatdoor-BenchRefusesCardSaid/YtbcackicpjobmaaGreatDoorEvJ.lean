/- A part of the proof of BenchRefuses: no statement of the seat's stands here. -/
import Derived.Below
import Derived.Test.YtbcackicpjobmaaGreatDoorEvI
set_option linter.unusedSectionVars false
set_option linter.unusedSimpArgs false
set_option linter.unusedVariables false
set_option linter.all false
/- Regions whose order is drawn. -/
set_option linter.unusedSectionVars false
set_option linter.unusedSimpArgs false
set_option linter.unusedVariables false
namespace Go.Ev
open Go

/- the operations that come ahead -/
theorem before_inner (acc : Array Nat) (f : Nat) : ∀ (es : List Edge) (s : Nat), (es.foldl (fun s e => if Region.binds .any e then s ||| 2 ^ e.on ||| acc.getD e.on 0 else s) s).testBit f = true →
    s.testBit f = true ∨ ∃ e ∈ es, Region.binds .any e = true ∧ (e.on = f ∨ (acc.getD e.on 0).testBit f = true)
  | [], s, h => .inl h
  | e :: es, s, h => by
    rw [List.foldl_cons] at h
    rcases before_inner acc f es _ h with h1 | ⟨e', he, h1⟩
    · split at h1
      · rename_i hb
        rw [Nat.testBit_or, Nat.testBit_or, Nat.testBit_two_pow] at h1
        simp only [Bool.or_eq_true, decide_eq_true_eq] at h1
        rcases h1 with (h1 | h1) | h1
        · exact .inl h1
        · exact .inr ⟨e, List.mem_cons_self, hb, .inl h1⟩
        · exact .inr ⟨e, List.mem_cons_self, hb, .inr h1⟩
      · exact .inl h1
    · exact .inr ⟨e', List.mem_cons_of_mem _ he, h1⟩
def befStep (acc : Array Nat) (o : Oper) : Array Nat := acc.push (o.after.foldl (fun s e => if Region.binds .any e then s ||| 2 ^ e.on ||| acc.getD e.on 0 else s) 0)
theorem before_keep : ∀ (l : List Oper) (acc : Array Nat), acc.size ≤ (l.foldl befStep acc).size ∧ ∀ j, j < acc.size → (l.foldl befStep acc).getD j 0 = acc.getD j 0
  | [], acc => ⟨Nat.le_refl _, fun _ _ => rfl⟩
  | o :: l, acc => by
    obtain ⟨h1, h2⟩ := before_keep l (befStep acc o)
    have hs : (befStep acc o).size = acc.size + 1 := by simp [befStep]
    refine ⟨by rw [List.foldl_cons]; omega, fun j hj => ?_⟩
    rw [List.foldl_cons, h2 j (by omega)]
    simp only [befStep, Array.getD_eq_getD_getElem?, Array.getElem?_push]
    rw [if_neg (by omega)]
theorem before_outer (f : Nat) : ∀ (l : List Oper) (acc : Array Nat) (i : Nat), acc.size ≤ i → ((l.foldl befStep acc).getD i 0).testBit f = true →
    ∃ o, l[i - acc.size]? = some o ∧ ∃ e ∈ o.after.toList, Region.binds .any e = true ∧ (e.on = f ∨ ((l.foldl befStep acc).getD e.on 0).testBit f = true)
  | [], acc, i, hi, h => by
    exfalso
    rw [List.foldl_nil, Array.getD_eq_getD_getElem?, Array.getElem?_eq_none hi] at h
    simp at h
  | o :: l, acc, i, hi, h => by
    have hs : (befStep acc o).size = acc.size + 1 := by simp [befStep]
    rw [List.foldl_cons] at h
    by_cases e : i = acc.size
    · subst e
      refine ⟨o, by simp, ?_⟩
      rw [(before_keep l (befStep acc o)).2 _ (by omega)] at h
      have h' : (o.after.toList.foldl (fun s e => if Region.binds .any e then s ||| 2 ^ e.on ||| acc.getD e.on 0 else s) 0).testBit f = true := by
        rw [Array.foldl_toList]
        simpa [befStep, Array.getD_eq_getD_getElem?] using h
      rcases before_inner acc f _ _ h' with h1 | ⟨e, he, hb, h1⟩
      · simp at h1
      · refine ⟨e, he, hb, h1.imp id fun h1 => ?_⟩
        rcases Nat.lt_or_ge e.on acc.size with hl | hl
        · rw [List.foldl_cons, (before_keep l (befStep acc o)).2 _ (by omega)]
          have : (befStep acc o).getD e.on 0 = acc.getD e.on 0 := by
            simp only [befStep, Array.getD_eq_getD_getElem?, Array.getElem?_push]
            rw [if_neg (by omega)]
          rw [this]; exact h1
        · rw [Array.getD_eq_getD_getElem?, Array.getElem?_eq_none hl] at h1
          simp at h1
    · obtain ⟨o', h1, h2⟩ := before_outer f l (befStep acc o) i (by omega) h
      refine ⟨o', ?_, h2⟩
      rw [hs] at h1
      rw [show i - acc.size = (i - (acc.size + 1)) + 1 from by omega, List.getElem?_cons_succ]
      exact h1
theorem before_bit {ops : Array Oper} {i f : Nat} (h : ((Region.before ops).getD i 0).testBit f = true) :
    ∃ o, ops[i]? = some o ∧ ∃ e ∈ o.after, Region.binds .any e = true ∧ (e.on = f ∨ ((Region.before ops).getD e.on 0).testBit f = true) := by
  have hb : Region.before ops = ops.toList.foldl befStep #[] := by
    unfold Region.before
    rw [← Array.foldl_toList]
    rfl
  rw [hb] at h ⊢
  obtain ⟨o, h1, e, he, h2⟩ := before_outer f ops.toList #[] i (by simp) h
  exact ⟨o, by simpa using h1, e, Array.mem_toList_iff.1 he, h2⟩

/- states that read alike -/
def St.eqv (s t : St) : Prop := s.tm = t.tm ∧ ∀ b, t.H.get b = s.H.get b
theorem St.eqv_refl (s : St) : s.eqv s := ⟨rfl, fun _ => rfl⟩
theorem St.eqv_trans {s t u : St} (h : s.eqv t) (h' : t.eqv u) : s.eqv u := ⟨h.1.trans h'.1, fun b => (h'.2 b).trans (h.2 b)⟩
theorem At.eqv {B : Mem} {w0 : World} {M0 : Mem} {ρ0 : Rho} {H0 : Heap} {pins : Nat} {st st' : St} {a : Act} {w : World} (h : At B w0 M0 ρ0 H0 pins st a w) (e : st.eqv st') : At B w0 M0 ρ0 H0 pins st' a w := by
  obtain ⟨M, ρ, h1, h2, h3, h4, h5⟩ := h
  exact ⟨M, ρ, h1.congr e.2, by rw [← e.1]; exact h2, h3, h4.congr e.2, h5⟩

theorem putAll_other : ∀ (ws : List (Nat × Blk)) (H : Heap) (b : Nat), b ∉ ws.map (·.1) → (putAll H ws).get b = H.get b
  | [], H, b, _ => rfl
  | x :: ws, H, b, h => by
    simp only [List.map_cons, List.mem_cons, not_or] at h
    show (putAll (H.put x.1 (some x.2)) ws).get b = _
    rw [putAll_other ws _ b h.2, Heap.get_put_other _ _ _ _ h.1]
theorem putAll_congr : ∀ (ws : List (Nat × Blk)) (H H' : Heap) (b : Nat), (H'.get b = H.get b ∨ b ∈ ws.map (·.1)) → (putAll H' ws).get b = (putAll H ws).get b
  | [], H, H', b, h => by
    rcases h with h | h
    · exact h
    · cases h
  | x :: ws, H, H', b, h => by
    show (putAll (H'.put x.1 (some x.2)) ws).get b = (putAll (H.put x.1 (some x.2)) ws).get b
    refine putAll_congr ws _ _ b ?_
    by_cases e : b = x.1
    · subst e; left; rw [Heap.get_put_same, Heap.get_put_same]
    · rcases h with h | h
      · left; rw [Heap.get_put_other _ _ _ _ e, Heap.get_put_other _ _ _ _ e]; exact h
      · right
        simp only [List.map_cons, List.mem_cons] at h
        exact h.resolve_left e

section
variable {X : Ctx} {call : CallFn} {ops : Array Oper} {fresh : Nat → Nat → Nat}

/-- What an operation does, in a state. -/
def Eff (X : Ctx) (call : CallFn) (ops : Array Oper) (fresh : Nat → Nat → Nat) (i : Nat) (o : Oper) (tm : List V) (H : Heap) (v : V) (ws : List (Nat × Blk)) (rd : List Nat) : Prop :=
  ops[i]? = some o ∧ ((wantedV ops o tm = some true ∧ ∃ r, evOp X call o (fresh i) tm H = some r ∧ v = r.v ∧ ws = r.wr ∧ rd = r.rd) ∨ (wantedV ops o tm = some false ∧ v = .tuple [] ∧ ws = [] ∧ rd = []))

theorem evStep_eff {i : Nat} {st st' : St} {rd wr : List Nat} (h : evStep X call ops fresh i st = some (st', rd, wr)) :
    ∃ o v ws, Eff X call ops fresh i o st.tm st.H v ws rd ∧ wr = ws.map (·.1) ∧ st' = ⟨putTm st.tm o.dst v, putAll st.H ws⟩ := by
  unfold evStep at h
  cases ho : ops[i]? with
  | none => rw [ho] at h; cases h
  | some o =>
    rw [ho] at h
    simp only at h
    cases hw : wantedV ops o st.tm with
    | none => rw [hw] at h; cases h
    | some b =>
      rw [hw] at h
      cases b with
      | true =>
        simp only at h
        cases hev : evOp X call o (fresh i) st.tm st.H with
        | none => rw [hev] at h; cases h
        | some r => rw [hev] at h; cases h; exact ⟨o, r.v, r.wr, ⟨ho, .inl ⟨hw, r, hev, rfl, rfl, rfl⟩⟩, rfl, rfl⟩
      | false => cases h; exact ⟨o, .tuple [], [], ⟨ho, .inr ⟨hw, rfl, rfl, rfl⟩⟩, rfl, rfl⟩
theorem Eff.step {i : Nat} {o : Oper} {st : St} {v : V} {ws : List (Nat × Blk)} {rd : List Nat} (h : Eff X call ops fresh i o st.tm st.H v ws rd) :
    evStep X call ops fresh i st = some (⟨putTm st.tm o.dst v, putAll st.H ws⟩, rd, ws.map (·.1)) := by
  obtain ⟨ho, ⟨hw, r, hev, rfl, rfl, rfl⟩ | ⟨hw, rfl, rfl, rfl⟩⟩ := h
  · simp only [evStep, ho, hw, hev]
  · simp only [evStep, ho, hw]; rfl

theorem Eff.moved {i : Nat} {o : Oper} {tm tm' : List V} {H H' : Heap} {v : V} {ws : List (Nat × Blk)} {rd : List Nat} (h : Eff X call ops fresh i o tm H v ws rd)
    (ht : ∀ t ∈ o.looksAt ops, tm'[t]? = tm[t]?) (hH : Agree H H' rd) : Eff X call ops fresh i o tm' H' v ws rd := by
  obtain ⟨ho, h⟩ := h
  have hw : wantedV ops o tm' = wantedV ops o tm := by
    unfold wantedV
    cases hg : o.guard with
    | none => rfl
    | some gw =>
      obtain ⟨g, want⟩ := gw
      simp only
      cases hd : (ops[g]?).bind (·.dst) with
      | none => rfl
      | some d =>
        simp only
        rw [ht d (by simp [Oper.looksAt, hg, hd])]
  refine ⟨ho, ?_⟩
  rw [hw]
  refine h.imp (fun ⟨h1, r, h2, h3, h4, h5⟩ => ⟨h1, r, ?_, h3, h4, h5⟩) id
  unfold evOp at h2 ⊢
  rw [evOpR_congr (ρ := opd X tm') (ρ' := opd X tm)]
  · exact evOpR_local h2 (by rw [← h5]; exact hH)
  · intro x hx
    cases x with
    | tmp t =>
      simp only [opd]
      rw [ht t (List.mem_append_left _ (List.mem_filterMap.2 ⟨.tmp t, by simpa using hx, rfl⟩))]
    | const v => rfl
    | global g => rfl
    | func f => rfl

theorem putTm_get {tm : List V} {d : Option Nat} {v : V} {t : Nat} (h : ∀ e, d = some e → e ≠ t) : (putTm tm d v)[t]? = tm[t]? := by
  cases d with
  | none => rfl
  | some d => exact List.getElem?_set_ne (h d rfl)
theorem putTm_comm {tm : List V} {d e : Option Nat} {v u : V} (h : ∀ x, d = some x → e ≠ some x) : putTm (putTm tm d v) e u = putTm (putTm tm e u) d v := by
  cases d with
  | none => rfl
  | some d =>
    cases e with
    | none => rfl
    | some e => exact List.set_comm _ _ (fun x => h d rfl (by rw [x]))

theorem disjoint_spec {a b : List Nat} (h : disjoint a b = true) : ∀ x ∈ a, x ∉ b := by
  unfold disjoint at h
  intro x hx
  have := List.all_eq_true.1 h x hx
  simpa using this

/-- Two operations, the other way round. -/
theorem swap_two {f g : Nat} {st st1 st2 : St} {rf wf rg wg : List Nat} (hf : evStep X call ops fresh f st = some (st1, rf, wf)) (hg : evStep X call ops fresh g st1 = some (st2, rg, wg))
    (hd : Foot.apart ⟨f, rf, wf⟩ ⟨g, rg, wg⟩ = true) {x y : Oper} (hx : ops[f]? = some x) (hy : ops[g]? = some y) (hap : Oper.apart ops x y = true) :
    ∃ s1 s2, evStep X call ops fresh g st = some (s1, rg, wg) ∧ evStep X call ops fresh f s1 = some (s2, rf, wf) ∧ st2.eqv s2 := by
  obtain ⟨of, vf, wsf, ef, rfl, rfl⟩ := evStep_eff hf
  obtain ⟨og, vg, wsg, eg, rfl, rfl⟩ := evStep_eff hg
  have e1 : of = x := Option.some.inj (ef.1.symm.trans hx)
  have e2 : og = y := Option.some.inj (eg.1.symm.trans hy)
  subst e1 e2
  obtain ⟨a1, a2, a3⟩ := Oper.apart_spec hap
  simp only [Foot.apart, Bool.and_eq_true] at hd
  obtain ⟨⟨d1, d2⟩, d3⟩ := hd
  have d1 := disjoint_spec d1
  have d2 := disjoint_spec d2
  have d3 := disjoint_spec d3
  have eg' : Eff X call ops fresh g og st.tm st.H vg wsg rg := eg.moved (fun t ht => (putTm_get fun e he hte => a1 e he (hte ▸ ht)).symm) (fun b hb => (putAll_other wsf st.H b (fun hm => d2 b hm hb)).symm)
  refine ⟨_, _, eg'.step, Eff.step (st := ⟨putTm st.tm og.dst vg, putAll st.H wsg⟩) (ef.moved (fun t ht => putTm_get fun e he hte => a3 e he (hte ▸ ht)) (fun b hb => putAll_other wsg st.H b (fun hm => d3 b hb hm))), ?_, fun b => ?_⟩
  · exact (putTm_comm fun e he => a2 e he)
  · show (putAll (putAll st.H wsg) wsf).get b = (putAll (putAll st.H wsf) wsg).get b
    by_cases hb : b ∈ wsf.map (·.1)
    · rw [putAll_other wsg _ b (d1 b hb)]
      exact putAll_congr wsf _ _ b (.inr hb)
    · rw [putAll_other wsf _ b hb]
      exact (putAll_congr wsg _ _ b (.inl (putAll_other wsf _ b hb))).symm

theorem evStep_eqv {i : Nat} {st st' s : St} {rd wr : List Nat} (h : evStep X call ops fresh i st = some (st', rd, wr)) (e : st.eqv s) : ∃ s', evStep X call ops fresh i s = some (s', rd, wr) ∧ st'.eqv s' := by
  obtain ⟨o, v, ws, ef, rfl, rfl⟩ := evStep_eff h
  have ef' : Eff X call ops fresh i o s.tm s.H v ws rd := ef.moved (fun t _ => by rw [e.1]) (fun b _ => e.2 b)
  exact ⟨_, ef'.step, by simp [e.1], fun b => putAll_congr ws _ _ b (.inl (e.2 b))⟩
theorem evTrace_eqv : ∀ (L : List Nat) {st s fin : St} {l : List Foot}, evTrace X call ops fresh L st = some (fin, l) → st.eqv s → ∃ fin', evTrace X call ops fresh L s = some (fin', l) ∧ fin.eqv fin'
  | [], st, s, fin, l, h, e => by
    unfold evTrace at h
    cases h
    exact ⟨s, by unfold evTrace; rfl, e⟩
  | i :: L, st, s, fin, l, h, e => by
    unfold evTrace at h
    cases hs : evStep X call ops fresh i st with
    | none => rw [hs] at h; cases h
    | some q =>
      obtain ⟨st1, rd, wr⟩ := q
      rw [hs] at h
      simp only at h
      cases ht : evTrace X call ops fresh L st1 with
      | none => rw [ht] at h; cases h
      | some q =>
        obtain ⟨f1, l1⟩ := q
        rw [ht] at h
        cases h
        obtain ⟨s1, g1, g2⟩ := evStep_eqv hs e
        obtain ⟨f2, g3, g4⟩ := evTrace_eqv L ht g2
        exact ⟨f2, by unfold evTrace; rw [g1]; simp only; rw [g3], g4⟩
theorem evTrace_cons {i : Nat} {L : List Nat} {st fin : St} {l : List Foot} (h : evTrace X call ops fresh (i :: L) st = some (fin, l)) :
    ∃ st1 rd wr l', evStep X call ops fresh i st = some (st1, rd, wr) ∧ evTrace X call ops fresh L st1 = some (fin, l') ∧ l = ⟨i, rd, wr⟩ :: l' := by
  unfold evTrace at h
  cases hs : evStep X call ops fresh i st with
  | none => rw [hs] at h; cases h
  | some q =>
    obtain ⟨st1, rd, wr⟩ := q
    rw [hs] at h
    simp only at h
    cases ht : evTrace X call ops fresh L st1 with
    | none => rw [ht] at h; cases h
    | some q => obtain ⟨f1, l1⟩ := q; rw [ht] at h; cases h; exact ⟨st1, rd, wr, l1, rfl, ht, rfl⟩
theorem evTrace_of {i : Nat} {L : List Nat} {st st1 fin : St} {rd wr : List Nat} {l : List Foot} (h : evStep X call ops fresh i st = some (st1, rd, wr)) (ht : evTrace X call ops fresh L st1 = some (fin, l)) :
    evTrace X call ops fresh (i :: L) st = some (fin, ⟨i, rd, wr⟩ :: l) := by
  unfold evTrace; rw [h]; simp only; rw [ht]

def Free (ops : Array Oper) (f g : Foot) : Prop := Foot.apart f g = true ∧ ∃ x y, ops[f.i]? = some x ∧ ops[g.i]? = some y ∧ Oper.apart ops x y = true

/-- An operation, ahead of all. -/
theorem evTrace_front (i : Nat) (R2 : List Nat) : ∀ (R1 : List Nat) {st fin : St} {l : List Foot}, evTrace X call ops fresh (R1 ++ i :: R2) st = some (fin, l) →
    ∃ l1 I l2, l = l1 ++ I :: l2 ∧ l1.map (·.i) = R1 ∧ I.i = i ∧ ((∀ f ∈ l1, Free ops f I) → ∃ fin', evTrace X call ops fresh (i :: (R1 ++ R2)) st = some (fin', I :: (l1 ++ l2)) ∧ fin.eqv fin')
  | [], st, fin, l, h => by
    obtain ⟨st1, rd, wr, l', h1, h2, rfl⟩ := evTrace_cons h
    exact ⟨[], ⟨i, rd, wr⟩, l', rfl, rfl, rfl, fun _ => ⟨fin, h, St.eqv_refl _⟩⟩
  | f :: R1, st, fin, l, h => by
    obtain ⟨st1, rd, wr, l', h1, h2, rfl⟩ := evTrace_cons h
    obtain ⟨l1, I, l2, rfl, g1, g2, g3⟩ := evTrace_front i R2 R1 h2
    refine ⟨⟨f, rd, wr⟩ :: l1, I, l2, rfl, by simp [g1], g2, fun hfree => ?_⟩
    obtain ⟨fin', g4, g5⟩ := g3 fun f hf => hfree f (List.mem_cons_of_mem _ hf)
    obtain ⟨st2, rd2, wr2, l'', g6, g7, g8⟩ := evTrace_cons g4
    simp only [List.cons.injEq] at g8
    obtain ⟨rfl, rfl⟩ := g8
    obtain ⟨hap, x, y, hx, hy, hxy⟩ := hfree _ List.mem_cons_self
    obtain ⟨s1, s2, k1, k2, k3⟩ := swap_two h1 g6 hap hx hy hxy
    obtain ⟨fin'', k4, k5⟩ := evTrace_eqv _ g7 k3
    exact ⟨fin'', evTrace_of k1 (evTrace_of k2 k4), St.eqv_trans g5 k5⟩

theorem allTurn_mid {bef : Array Nat} : ∀ (l1 : List Foot) {I : Foot} {l2 : List Foot}, allTurn ops bef (l1 ++ I :: l2) = true → (∀ f ∈ l1, mayTurn ops bef f I = true) ∧ allTurn ops bef (l1 ++ l2) = true
  | [], I, l2, h => by
    simp only [List.nil_append, allTurn, Bool.and_eq_true] at h
    exact ⟨by simp, h.2⟩
  | f :: l1, I, l2, h => by
    simp only [List.cons_append, allTurn, Bool.and_eq_true, List.all_eq_true] at h
    obtain ⟨h1, h2⟩ := allTurn_mid l1 h.2
    refine ⟨fun g hg => ?_, ?_⟩
    · rcases List.mem_cons.1 hg with rfl | hg
      · exact h.1 I (List.mem_append.2 (.inr List.mem_cons_self))
      · exact h1 g hg
    · simp only [List.cons_append, allTurn, Bool.and_eq_true, List.all_eq_true]
      refine ⟨fun g hg => h.1 g ?_, h2⟩
      rcases List.mem_append.1 hg with hg | hg
      · exact List.mem_append.2 (.inl hg)
      · exact List.mem_append.2 (.inr (List.mem_cons_of_mem _ hg))
end

theorem listed_of {listed : Array Bool} {j : Nat} (h : listed.getD j false = true) : listed.getD j true = true := by
  rcases Nat.lt_or_ge j listed.size with h' | h'
  · simp [h'] at h ⊢; exact h
  · simp [Array.getElem?_eq_none h'] at h

section
variable {X : Ctx} {B : Mem} {w0 : World} {M0 : Mem} {ρ0 : Rho} {H0 : Heap} {pins : Nat} {Q : Exit → Act → World → Prop} {call : CallFn} {ops : Array Oper} {ro : Option Nat} {nd : Nat}

theorem wpAny_of_trace (hX : CtxOK X B) (hC : CallsOK X.P B call) (n0 : Nat) (haft : afterOk ops = true) (st0 : St) (hQ : ∀ a' w', At B w0 M0 ρ0 H0 pins st0 a' w' → Q .normal a' w') :
    ∀ (n : Nat) (R : List Nat) (listed : Array Bool) (st fin : St) (l : List Foot), R.length = n → R.Pairwise (· < ·) → (∀ j, j ∈ R ↔ listed.getD j true = false) → (∀ j ∈ R, j < ops.size) → listed.size = ops.size →
    (∀ j f, listed.getD j false = true → ((Region.before ops).getD j 0).testBit f = true → listed.getD f false = true) →
    (∀ j ∈ R, Fresh st.H (fun k => n0 + k * ops.size + j)) → evTrace X call ops (fun i k => n0 + k * ops.size + i) R st = some (fin, l) → allTurn ops (Region.before ops) l = true → l.all (wrOk n0 ops.size (Region.before ops)) = true →
    fin.eqv st0 → ∀ {a : Act} {w : World}, At B w0 M0 ρ0 H0 pins st a w → wpAnyIn ro nd X.P .any ops Q n listed a w := by
  intro n
  induction n with
  | zero =>
    intro R listed st fin l hn hp hmem hlt hsz hcl hfr htr hall hwr heq a w hat
    have hR : R = [] := List.length_eq_zero_iff.1 hn
    subst hR
    unfold evTrace at htr
    cases htr
    refine ⟨?_, hQ a w (hat.eqv heq)⟩
    cases hr : Region.ready .any ops listed with
    | nil => rfl
    | cons j r =>
      exfalso
      have := (mem_ready.1 (hr ▸ List.mem_cons_self : j ∈ Region.ready .any ops listed)).1
      have := (hmem j).2 this
      cases this
  | succ n ih =>
    intro R listed st fin l hn hp hmem hlt hsz hcl hfr htr hall hwr heq a w hat
    refine ⟨fun hemp => ?_, fun i hi => ?_⟩
    · -- the first one that is left can go
      exfalso
      cases R with
      | nil => simp at hn
      | cons i0 R =>
        have hi0 := hlt i0 List.mem_cons_self
        have hready : i0 ∈ Region.ready .any ops listed := by
          refine mem_ready.2 ⟨(hmem i0).1 List.mem_cons_self, ops[i0], Array.getElem?_eq_getElem hi0, fun e he hb => ?_⟩
          have h1 := List.all_eq_true.1 haft i0 (List.mem_range.2 hi0)
          rw [Array.getElem?_eq_getElem hi0] at h1
          have h2 := List.all_eq_true.1 h1 e (Array.mem_toList_iff.2 he)
          simp only [hb, Bool.not_true, Bool.false_or, decide_eq_true_eq] at h2
          have h3 : e.on ∉ i0 :: R := by
            intro hm
            rcases List.mem_cons.1 hm with hm | hm
            · omega
            · have := (List.pairwise_cons.1 hp).1 _ hm; omega
          have h4 : listed.getD e.on true ≠ false := fun hh => h3 ((hmem _).2 hh)
          have hls : e.on < listed.size := by omega
          simp [hls] at h4 ⊢
          exact h4
        rw [hemp] at hready
        cases hready
    · obtain ⟨hun, o, ho, hafter⟩ := mem_ready.1 hi
      have hiR := (hmem i).2 hun
      obtain ⟨R1, R2, rfl⟩ := List.append_of_mem hiR
      obtain ⟨l1, I, l2, rfl, g1, g2, g3⟩ := evTrace_front i R2 R1 htr
      obtain ⟨t1, t2⟩ := allTurn_mid l1 hall
      -- what must come ahead has come
      have ahead : ∀ f, ((Region.before ops).getD i 0).testBit f = true → listed.getD f false = true := fun f hb => by
        obtain ⟨o', ho', e, he, hbd, h1⟩ := before_bit hb
        have : o' = o := Option.some.inj (ho'.symm.trans ho)
        subst this
        have h2 := hafter e he hbd
        rcases h1 with h1 | h1
        · rw [← h1]; exact h2
        · exact hcl _ _ h2 h1
      obtain ⟨fin', g4, g5⟩ := g3 fun f hf => by
        have hm := t1 f hf
        unfold mayTurn at hm
        rw [Bool.or_eq_true] at hm
        rcases hm with hm | hm
        · exfalso
          rw [g2] at hm
          have h1 := listed_of (ahead _ hm)
          have h2 : f.i ∈ R1 ++ i :: R2 := List.mem_append.2 (.inl (by rw [← g1]; exact List.mem_map.2 ⟨f, hf, rfl⟩))
          rw [(hmem _).1 h2] at h1
          cases h1
        · rw [Bool.and_eq_true] at hm
          refine ⟨hm.1, ?_⟩
          have h2 := hm.2
          split at h2
          · rename_i x y hx hy; exact ⟨x, y, hx, hy, h2⟩
          · cases h2
      obtain ⟨st1, rd, wr, l', g6, g7, g8⟩ := evTrace_cons g4
      simp only [List.cons.injEq] at g8
      obtain ⟨rfl, rfl⟩ := g8
      have hilt := hlt i hiR
      have hnd : i ∉ R1 ++ R2 := by
        intro hm
        rcases List.mem_append.1 hm with hm | hm
        · have := (List.pairwise_append.1 hp).2.2 _ hm _ List.mem_cons_self; omega
        · have := (List.pairwise_cons.1 (List.pairwise_append.1 hp).2.1).1 _ hm; omega
      have hsub : (R1 ++ R2).Sublist (R1 ++ i :: R2) := (List.Sublist.refl R1).append (List.sublist_cons_self i R2)
      refine evStep_sound hX hC g6 (hfr i hiR) hat fun a' w' hat' => ?_
      refine ih (R1 ++ R2) (listed.setIfInBounds i true) st1 fin' (l1 ++ l2) (by simp at hn ⊢; omega) (hp.sublist hsub) (fun j => ?_) (fun j hj => hlt j (hsub.subset hj)) (by simpa using hsz) (fun j f hj hb => ?_) (fun j hj => ?_) g7 t2 ?_ ?_ hat'
      · by_cases e : i = j
        · subst e
          constructor
          · exact fun h => absurd h hnd
          · intro h
            have hls : i < listed.size := by omega
            simp [hls] at h
        · rw [getD_set_ne true e, ← hmem j]
          simp only [List.mem_append, List.mem_cons]
          constructor
          · rintro (h | h)
            · exact .inl h
            · exact .inr (.inr h)
          · rintro (h | h | h)
            · exact .inl h
            · exact absurd h.symm e
            · exact .inr h
      · by_cases e : i = j
        · subst e; exact getD_set_true (ahead f hb)
        · rw [getD_set_ne false e] at hj
          exact getD_set_true (hcl j f hj hb)
      · have hj' := hsub.subset hj
        have hf := hfr j hj'
        refine ⟨fun k => ?_, hf.2⟩
        obtain ⟨o2, v2, ws2, ef, rfl, rfl⟩ := evStep_eff g6
        show (putAll st.H ws2).get _ = none
        rw [putAll_other ws2 st.H _ (fun hm => ?_)]
        · exact hf.1 k
        · have h1 := List.all_eq_true.1 hwr ⟨i, rd, ws2.map (·.1)⟩ (List.mem_append.2 (.inr List.mem_cons_self))
          unfold wrOk at h1
          have h2 := List.all_eq_true.1 h1 _ hm
          have hjs := hlt j hj'
          have hmod : (n0 + k * ops.size + j - n0) % ops.size = j := by
            rw [show n0 + k * ops.size + j - n0 = j + k * ops.size from by omega, Nat.add_mul_mod_self_right, Nat.mod_eq_of_lt hjs]
          simp only [hmod, Bool.or_eq_true, decide_eq_true_eq, beq_iff_eq] at h2
          rcases h2 with (h2 | h2) | h2
          · omega
          · exact hnd (h2 ▸ hj)
          · have h3 := listed_of (ahead j h2)
            rw [(hmem _).1 hj'] at h3
            cases h3
      · rw [List.all_append, Bool.and_eq_true] at hwr ⊢
        refine ⟨hwr.1, ?_⟩
        have := hwr.2
        rw [List.all_cons, Bool.and_eq_true] at this
        exact this.2
      · exact ⟨g5.1.symm.trans heq.1, fun b => (heq.2 b).trans (g5.2 b).symm⟩

theorem evRegion_sound (hm : X.P.follows .mixedOrders = true) (hX : CtxOK X B) (hC : CallsOK X.P B call) {id : Nat} {draw : Bool} {st st' : St} (hs : evRegion X call ops draw st = some st')
    {a : Act} {w : World} (h : At B w0 M0 ρ0 H0 pins st a w) (hQ : ∀ a' w', At B w0 M0 ρ0 H0 pins st' a' w' → Q .normal a' w') : (Code.region id ops draw).wpIn (FR ro) nd X.P Q a w := by
  unfold evRegion at hs
  cases draw with
  | false =>
    rw [if_neg (by simp)] at hs
    refine wpIn_region ?_
    rw [List.range_eq_range']
    exact evSeq_sound hX hC _ _ _ _ hs h hQ
  | true =>
    rw [if_pos rfl] at hs
    simp only at hs
    split at hs
    · rename_i fin l htr
      split at hs
      · rename_i hc
        cases hs
        simp only [Bool.and_eq_true] at hc
        obtain ⟨⟨c1, c2⟩, c3⟩ := hc
        have hat : At B w0 M0 ρ0 H0 pins st a { w with drawn := w.drawn + 1 } := by
          obtain ⟨M, ρ, h1, h2, h3, h4, h5⟩ := h
          obtain ⟨k1, k2⟩ := h1.pass (Kept.drew w)
          exact ⟨M, ρ, k1, h2, h3.kept h1 k2.kept, h4.trans k2, h5⟩
        refine wpIn_region_any hm ?_
        refine wpAny_of_trace hX hC st.H.length c1 st' hQ ops.size (List.range ops.size) _ st st' l (by simp) List.pairwise_lt_range (fun j => ?_) (fun j hj => List.mem_range.1 hj) (by simp) (fun j f hj => ?_) (fun j hj => ?_) htr c2 c3 (St.eqv_refl _) hat
        · simp only [List.mem_range, Array.getD_eq_getD_getElem?, Array.getElem?_replicate]
          split <;> simp_all
        · exfalso
          simp only [Array.getD_eq_getD_getElem?, Array.getElem?_replicate] at hj
          split at hj <;> simp at hj
        · have hjs := List.mem_range.1 hj
          refine ⟨fun k => Heap.get_none_of_le _ _ (by show st.H.length ≤ st.H.length + k * ops.size + j; omega), fun x y hxy => ?_⟩
          have hxy : st.H.length + x * ops.size + j = st.H.length + y * ops.size + j := hxy
          have : x * ops.size = y * ops.size := by omega
          exact Nat.eq_of_mul_eq_mul_right (by omega) this
      · cases hs
    · cases hs
end
end Go.Ev
/- Code. -/
set_option linter.unusedSectionVars false
set_option linter.unusedSimpArgs false
set_option linter.unusedVariables false
namespace Go.Ev
open Go

def Ex.to : Ex → Exit
  | .normal => .normal
  | .exit id => .exit id
  | .goto l => .goto l
  | .ret => .ret

section
variable {P : Program} {Q : Exit → Act → World → Prop} {a : Act} {w : World} {ro : Option Nat} {nd : Nat}

/-- At a loop's head. -/
def LoopAt (ro : Option Nat) (n : Nat) (P : Program) (c : Code) (Q : Exit → Act → World → Prop) (a : Act) (w : World) : Prop :=
  ∀ (b : Frame) (k : List Item) (cs : List Frame), b.roundOf = (FR ro).round → (FR ro).fn b.fn → (FR ro).room (cs.length + 1 + n) → ∃ e a' w', Q e a' w' ∧ ArrivesIn (Machine.fenced P (FR ro)) P (lone (b.atR a (.code c :: .inLoop c :: k)) cs w) b k cs e a' w'
theorem LoopAt.wp {c : Code} (h : LoopAt ro nd P c Q a w) : (Code.loop c).wpIn (FR ro) nd P Q a w := fun b k cs hro hb hr =>
  let ⟨e, a', w', q, r⟩ := h b k cs hro hb hr; ⟨e, a', w', q, .of_steps (.one (fenced_calm hb hr rfl) stepR_loop) r⟩
theorem LoopAt.round {c : Code} (h : c.wpIn (FR ro) nd P (Exit.then (LoopAt ro nd P c Q) Q) a w) : LoopAt ro nd P c Q a w := by
  intro b k cs hro hb hr
  obtain ⟨e, a₁, w₁, hq, harr⟩ := h b (.inLoop c :: k) cs hro hb hr
  cases e with
  | normal =>
    obtain ⟨e₂, a₂, w₂, hq₂, harr₂⟩ := hq b k cs hro hb hr
    exact ⟨e₂, a₂, w₂, hq₂, .of_steps (StepsIn.trans harr (.one (fenced_calm hb hr rfl) stepR_inLoop)) harr₂⟩
  | exit id => exact ⟨_, a₁, w₁, hq, .pass (x := .inLoop c) rfl (fun _ _ => .inl (by simp)) harr⟩
  | goto l => exact ⟨_, a₁, w₁, hq, .pass (x := .inLoop c) rfl (fun _ _ => .inl (by simp)) harr⟩
  | ret => exact ⟨_, a₁, w₁, hq, .pass (x := .inLoop c) rfl (fun _ _ => .inl (by simp)) harr⟩
  | panic ch => exact ⟨_, a₁, w₁, hq, .pass (x := .inLoop c) rfl (fun _ _ => .inl (by simp)) harr⟩
  | outgrown => exact ⟨_, a₁, w₁, hq, .pass (x := .inLoop c) rfl (fun _ _ => .inl (by simp)) harr⟩

theorem step_scope' {b : Frame} {k : List Item} {cs : List Frame} {c : Code} : step P (lone (b.atR a (.code (.scope c) :: k)) cs w) = .next (lone (b.atR a (.code c :: .inScope c :: k)) cs w) :=
  step_lone_go (by simp [stepG, stepG.exec, Frame.atR])
theorem step_inScope' {b : Frame} {k : List Item} {cs : List Frame} {c : Code} : step P (lone (b.atR a (.inScope c :: k)) cs w) = .next (lone (b.atR a k) cs w) :=
  step_lone_go (by simp [stepG, stepG.exec, Frame.atR])
/-- In a scope. -/
def ScopeAt (ro : Option Nat) (n : Nat) (P : Program) (body cur : Code) (Q : Exit → Act → World → Prop) (a : Act) (w : World) : Prop :=
  ∀ (b : Frame) (k : List Item) (cs : List Frame), b.roundOf = (FR ro).round → (FR ro).fn b.fn → (FR ro).room (cs.length + 1 + n) → ∃ e a' w', Q e a' w' ∧ ArrivesIn (Machine.fenced P (FR ro)) P (lone (b.atR a (.code cur :: .inScope body :: k)) cs w) b k cs e a' w'
theorem ScopeAt.wp {c : Code} (h : ScopeAt ro nd P c c Q a w) : (Code.scope c).wpIn (FR ro) nd P Q a w := fun b k cs hro hb hr =>
  let ⟨e, a', w', q, r⟩ := h b k cs hro hb hr; ⟨e, a', w', q, .of_steps (.one (fenced_calm hb hr rfl) step_scope') r⟩
def Exit.inScope (ro : Option Nat) (n : Nat) (P : Program) (body : Code) (Q : Exit → Act → World → Prop) : Exit → Act → World → Prop
  | .goto l, a, w => match findLabel body l with
    | some rest => ScopeAt ro n P body rest Q a w
    | none => Q (.goto l) a w
  | e, a, w => Q e a w
theorem ScopeAt.round {body cur : Code} (h : cur.wpIn (FR ro) nd P (Exit.inScope ro nd P body Q) a w) : ScopeAt ro nd P body cur Q a w := by
  intro b k cs hro hb hr
  obtain ⟨e, a₁, w₁, hq, harr⟩ := h b (.inScope body :: k) cs hro hb hr
  cases e with
  | normal => exact ⟨.normal, a₁, w₁, hq, StepsIn.trans harr (.one (fenced_calm hb hr rfl) step_inScope')⟩
  | exit id =>
    have hx : exitTo id (.inScope body :: k) = exitTo id k := by simp [exitTo]
    exact ⟨.exit id, a₁, w₁, hq, fun k' hk => harr.1 k' (by rw [hx]; exact hk), fun h1 hk => harr.2 h1 (by rw [hx]; exact hk)⟩
  | goto l =>
    simp only [Exit.inScope] at hq
    cases hf : findLabel body l with
    | some rest =>
      rw [hf] at hq
      obtain ⟨e₂, a₂, w₂, hq₂, harr₂⟩ := hq b k cs hro hb hr
      exact ⟨e₂, a₂, w₂, hq₂, .of_steps (harr.1 _ (by simp [gotoIn, hf])) harr₂⟩
    | none =>
      rw [hf] at hq
      have hx : gotoIn l (.inScope body :: k) = gotoIn l k := by simp [gotoIn, hf]
      exact ⟨.goto l, a₁, w₁, hq, fun k' hk => harr.1 k' (by rw [hx]; exact hk), fun h1 hk => harr.2 h1 (by rw [hx]; exact hk)⟩
  | ret => exact ⟨_, a₁, w₁, hq, harr⟩
  | panic ch => exact ⟨_, a₁, w₁, hq, harr⟩
  | outgrown => exact ⟨_, a₁, w₁, hq, harr⟩
end

theorem noRange_find : ∀ (c : Code) (l : Nat) (rest : Code), noRange c = true → findLabel c l = some rest → noRange rest = true
  | .seq a b, l, rest, h, hf => by
    simp only [noRange, Bool.and_eq_true] at h
    unfold findLabel at hf
    cases ha : findLabel a l with
    | some r =>
      rw [ha] at hf
      cases hf
      simp only [noRange, Bool.and_eq_true]
      exact ⟨noRange_find a l r h.1 ha, h.2⟩
    | none =>
      rw [ha] at hf
      exact noRange_find b l rest h.2 hf
  | .label l', l, rest, h, hf => by
    unfold findLabel at hf
    split at hf
    · cases hf; rfl
    · cases hf
  | .skip, l, rest, h, hf => by simp [findLabel] at hf
  | .region .., l, rest, h, hf => by simp [findLabel] at hf
  | .cond .., l, rest, h, hf => by simp [findLabel] at hf
  | .block .., l, rest, h, hf => by simp [findLabel] at hf
  | .loop .., l, rest, h, hf => by simp [findLabel] at hf
  | .rangeFunc .., l, rest, h, hf => by simp [findLabel] at hf
  | .exit .., l, rest, h, hf => by simp [findLabel] at hf
  | .scope .., l, rest, h, hf => by simp [findLabel] at hf
  | .goto .., l, rest, h, hf => by simp [findLabel] at hf
  | .ret, l, rest, h, hf => by simp [findLabel] at hf
  | .refuse .., l, rest, h, hf => by simp [findLabel] at hf

section
variable {X : Ctx} {B : Mem} {w0 : World} {M0 : Mem} {ρ0 : Rho} {H0 : Heap} {pins : Nat} {Q : Exit → Act → World → Prop}

theorem clearTm_rel {M : Mem} {ρ : Rho} : ∀ (l : List Nat) {tm : List V} {xs : List Value}, LRel M ρ tm xs → LRel M ρ (clearTm l tm) xs
  | [], tm, xs, h => h
  | t :: l, tm, xs, h => by
    show LRel M ρ (clearTm l (tm.set t .dead)) xs
    refine clearTm_rel l (LRel.of_get (by simp [h.length]) fun i v x hv hx => ?_)
    rw [List.getElem?_set] at hv
    split at hv
    · split at hv
      · cases hv; unfold VRel; trivial
      · cases hv
    · obtain ⟨y, hy, hr⟩ := h.get hv
      rw [hy] at hx; cases hx; exact hr

/-- A heap, cut down, with its pins where they are. -/
theorem canon_at {tm : List V} {H : Heap} {M : Mem} {ρ : Rho} {w : World} {xs : List Value} (h : HRel B w M ρ H) (ht : LRel M ρ tm xs) (n : Nat) {tm' : List V} {H' : Heap} (hc : canon n tm H = (tm', H')) :
    ∃ ρ', HRel B w M ρ' H' ∧ LRel M ρ' tm' xs ∧ Evo w M ρ H w M ρ' H' ∧ ∀ j, j < n → ρ' j = ρ j := by
  unfold canon at hc
  simp only at hc
  split at hc
  · cases hc; exact ⟨ρ, h, ht, Evo.refl _ _ _ _, fun _ _ => rfl⟩
  · rename_i l0 hl0
    split at hc
    · cases hc; exact ⟨ρ, h, ht, Evo.refl _ _ _ _, fun _ _ => rfl⟩
    · obtain ⟨hn0, _⟩ := reach_nodup hl0
      have hn : (List.range n ++ l0.filter (fun b => decide (n ≤ b))).Nodup := by
        rw [List.nodup_append]
        refine ⟨List.nodup_range, hn0.filter _, fun x hx y hy e => ?_⟩
        subst e
        have h1 := List.mem_range.1 hx
        have h2 := (List.mem_filter.1 hy).2
        simp only [decide_eq_true_eq] at h2
        omega
      have hj : ∀ j, j < n → (List.range n ++ l0.filter (fun b => decide (n ≤ b)))[j]? = some j := fun j hj => by
        rw [List.getElem?_append_left (by simpa using hj), List.getElem?_range hj]
      generalize List.range n ++ l0.filter (fun b => decide (n ≤ b)) = l at *
      cases hc
      refine ⟨subRho ρ l, h.sub hn, LRel.ren (sub_map ρ l) _ _ ht, ⟨Kept.refl _ _ _, Mem.le_refl _, fun _ _ h => .inl h, fun a ha => ?_, fun a ha => ?_⟩, fun j hjn => by simp [subRho, hj j hjn]⟩
      · obtain ⟨i, hi⟩ := ha
        obtain ⟨b, _, ho⟩ := sub_own hi
        exact .inl ⟨b, ho⟩
      · obtain ⟨i, hi⟩ := ha
        obtain ⟨b, _, ho⟩ := sub_obj hi
        exact .inl ⟨b, ho⟩
theorem head_at {f : FuncId} {body : Code} {st : St} {a : Act} {w : World} (h : At B w0 M0 ρ0 H0 pins st a w) : At B w0 M0 ρ0 H0 pins (head X f pins body st) a w := by
  obtain ⟨M, ρ, h1, h2, h3, h4, h5⟩ := h
  unfold head
  generalize hc : canon pins (clearTm (clears (X.keepSlots f) body) st.tm) st.H = q
  obtain ⟨tm, H⟩ := q
  obtain ⟨ρ', g1, g2, g3, g4⟩ := canon_at h1 (clearTm_rel _ h2) pins hc
  exact ⟨M, ρ', g1, g2, h3, h4.trans g3, fun j hj p hp => by rw [g4 j hj]; exact h5 j hj p hp⟩

/-- A loop's record is laid. -/
theorem HRel.layLoop {w : World} {M : Mem} {ρ : Rho} {H : Heap} (h : HRel B w M ρ H) {b : Nat} (hb : H.get b = none) {f : FuncId} {tm : List V} {ps : List Nat} {x y : Code} {rec : Loop} (h1 : rec.params.toList = ps) (h2 : rec.assign = x) (h3 : rec.body = y) (h4 : rec.state = .ready) (h5 : rec.pending = none)
    (ht : LRel M ρ tm rec.tmps.toList) :
    ∃ ρ', HRel B (w.alloc (.loop rec)) M ρ' (H.put b (some (.loop f tm ps x y .ready))) ∧ Evo w M ρ H (w.alloc (.loop rec)) M ρ' (H.put b (some (.loop f tm ps x y .ready))) ∧ ρ.le ρ' ∧ ρ' b = some ⟨w.heap.size, 0, 0, 0, true, none⟩ := by
  have hρ : ρ b = none := by
    have := h.dom b
    rw [hb] at this
    simpa using this
  have hkept : Kept (OwnB ρ H b) (ObjB ρ H b) w (w.alloc (.loop rec)) := by
    refine ⟨rfl, rfl, rfl, by simp, fun r hr _ _ => ?_, fun a hl _ => World.cell?_alloc_lt _ _ _ hl, fun a hl _ => World.frozen?_alloc_old _ _ _ (by have := cell_lt hl; omega), fun r hr => shape_alloc _ _ hr⟩
    show (w.heap.push _)[r]? = _
    rw [Array.getElem?_push, if_neg (by omega)]
  have hle : ρ.le (upd ρ b ⟨w.heap.size, 0, 0, 0, true, none⟩) := upd_le fun p hp => by rw [hρ] at hp; cases hp
  obtain ⟨g1, g2, g3⟩ := HRel.turn h b (.loop f tm ps x y .ready) ⟨w.heap.size, 0, 0, 0, true, none⟩ (fun p hp => by rw [hρ] at hp; cases hp) hkept
    (fun cs ver j e _ => by cases e) (fun _ => .inr (Nat.le_refl _)) ⟨rfl, rec, Array.getElem?_push_size, .inr ⟨h1, h2, h3, LRel.mono (Mem.le_refl _) hle _ _ ht, h4, h5⟩⟩
  exact ⟨_, g1, g2, g3, upd_same _ _ _⟩
theorem fix_le {ρ ρ' : Rho} (h : ρ.le ρ') {b : Nat} {p : Pl} (hp : ρ b = some p) (hf : p.fix = true) : ρ' b = some p := by
  obtain ⟨p', h1, _, _, h2⟩ := h b p hp
  rw [h1, h2 hf]
/-- The record of a loop's block. -/
theorem HRel.record {w : World} {M : Mem} {ρ : Rho} {H : Heap} (h : HRel B w M ρ H) {b : Nat} {p : Pl} (hp : ρ b = some p) {f : FuncId} {tm : List V} {ps : List Nat} {x y : Code} {st : LS} (hg : H.get b = some (.loop f tm ps x y st)) :
    ∃ r, w.heap[p.block]? = some (.loop r) ∧ LoopRel M ρ f tm ps x y st r := (h.rel b _ p hg hp).2

theorem mkMark_inj : ∀ {a b : List Nat}, a.map mkMark = b.map mkMark → a = b
  | [], [], _ => rfl
  | [], _ :: _, h => by cases h
  | _ :: _, [], h => by cases h
  | x :: a, y :: b, h => by
    simp only [List.map_cons, List.cons.injEq] at h
    obtain ⟨h1, h2⟩ := h
    have : x = y := by simpa [mkMark] using h1
    rw [this, mkMark_inj h2]

theorem evCode_sound (hm : X.P.follows .mixedOrders = true) (hX : CtxOK X B) : ∀ (n : Nat), (∀ k, k < n → CallsOK X.P B (callWith X (evCode X k))) →
    ∀ (ro : Option Nat) (nd : Nat) (f : FuncId) (c : Code) (st st' : St) (ex : Ex), evCode X n f pins c st = some (ex, st') → (ro = none ∨ noRange c = true) →
    ∀ {Q : Exit → Act → World → Prop} {a : Act} {w : World}, At B w0 M0 ρ0 H0 pins st a w → (∀ a' w', At B w0 M0 ρ0 H0 pins st' a' w' → Q ex.to a' w') →
      c.wpIn (FR ro) nd X.P Q a w ∧ ∀ c', c = .loop c' → LoopAt ro nd X.P c' Q a w := by
  intro n
  induction n with
  | zero => intro _ ro nd f c st st' ex hs; simp [evCode] at hs
  | succ n ih =>
    intro hC ro nd f c st st' ex hs hnr Q a w h hQ
    have ih' := fun f c st st' ex hs hnr => @ih (fun k hk => hC k (by omega)) ro nd f c st st' ex hs hnr
    unfold evCode at hs
    cases c with
    | skip => cases hs; exact ⟨wpIn_skip (hQ a w h), by simp⟩
    | label l => cases hs; exact ⟨wpIn_label (hQ a w h), by simp⟩
    | region id ops draw =>
      obtain ⟨s, hr, hs⟩ := Option.map_eq_some_iff.1 hs
      cases hs
      exact ⟨evRegion_sound hm hX (hC n (by omega)) hr h hQ, by simp⟩
    | seq x y =>
      refine ⟨wpIn_seq ?_, by simp⟩
      simp only at hs
      cases hx : evCode X n f pins x st with
      | none => rw [hx] at hs; cases hs
      | some r =>
        obtain ⟨e1, s1⟩ := r
        rw [hx] at hs
        refine (ih' f x st s1 e1 hx (hnr.imp (fun x => x) fun hh => by simp only [noRange, Bool.and_eq_true] at hh; exact hh.1) h fun a' w' h' => ?_).1
        cases e1 with
        | normal => exact (ih' f y s1 st' ex hs (hnr.imp (fun x => x) fun hh => by simp only [noRange, Bool.and_eq_true] at hh; exact hh.2) h' hQ).1
        | exit id => cases hs; exact hQ a' w' h'
        | goto l => cases hs; exact hQ a' w' h'
        | ret => cases hs; exact hQ a' w' h'
    | cond c x y =>
      refine ⟨?_, by simp⟩
      simp only at hs
      obtain ⟨M, ρ, h1, h2, h3, h4, h5⟩ := h
      have hc := opd_rel hX h1 h2 c
      split at hs
      · rename_i hb
        rw [hb] at hc
        unfold VRel at hc
        exact wpIn_cond_true hc (ih' f x st st' ex hs (hnr.imp (fun x => x) fun hh => by simp only [noRange, Bool.and_eq_true] at hh; exact hh.1) ⟨M, ρ, h1, h2, h3, h4, h5⟩ hQ).1
      · rename_i hb
        rw [hb] at hc
        unfold VRel at hc
        exact wpIn_cond_false hc (ih' f y st st' ex hs (hnr.imp (fun x => x) fun hh => by simp only [noRange, Bool.and_eq_true] at hh; exact hh.2) ⟨M, ρ, h1, h2, h3, h4, h5⟩ hQ).1
      · cases hs
    | block id c =>
      refine ⟨wpIn_block ?_, by simp⟩
      simp only at hs
      cases hx : evCode X n f pins c st with
      | none => rw [hx] at hs; cases hs
      | some r =>
        obtain ⟨e1, s1⟩ := r
        rw [hx] at hs
        refine (ih' f c st s1 e1 hx (hnr.imp (fun x => x) fun hh => by simpa only [noRange] using hh) h fun a' w' h' => ?_).1
        cases e1 with
        | normal => cases hs; exact hQ a' w' h'
        | exit id' =>
          simp only at hs
          simp only [Ex.to, Exit.inBlock]
          split at hs
          · rename_i e; cases hs; rw [if_pos e]; exact hQ a' w' h'
          · rename_i e; cases hs; rw [if_neg e]; exact hQ a' w' h'
        | goto l => cases hs; exact hQ a' w' h'
        | ret => cases hs; exact hQ a' w' h'
    | loop c =>
      have key : LoopAt ro nd X.P c Q a w := by
        refine LoopAt.round ?_
        simp only at hs
        have hh := head_at (X := X) (f := f) (body := c) h
        cases hx : evCode X n f pins c (head X f pins c st) with
        | none => rw [hx] at hs; cases hs
        | some r =>
          obtain ⟨e1, s1⟩ := r
          rw [hx] at hs
          refine (ih' f c _ s1 e1 hx (hnr.imp (fun x => x) fun hh => by simpa only [noRange] using hh) hh fun a' w' h' => ?_).1
          cases e1 with
          | normal => exact (ih' f (.loop c) s1 st' ex hs hnr h' hQ).2 c rfl
          | exit id => cases hs; exact hQ a' w' h'
          | goto l => cases hs; exact hQ a' w' h'
          | ret => cases hs; exact hQ a' w' h'
      exact ⟨key.wp, fun c' hc => by cases hc; exact key⟩
    | scope c =>
      refine ⟨ScopeAt.wp ?_, by simp⟩
      simp only at hs
      have go : ∀ (k : Nat) (cur : Code) (st : St) (a : Act) (w : World), scopeLoop (evCode X n f pins) (head X f pins c) c k cur st = some (ex, st') → At B w0 M0 ρ0 H0 pins st a w → (ro = none ∨ noRange cur = true) → ScopeAt ro nd X.P c cur Q a w := by
        intro k
        induction k with
        | zero => intro cur st a w hs; simp [scopeLoop] at hs
        | succ k ihk =>
          intro cur st a w hs h hnc
          unfold scopeLoop at hs
          refine ScopeAt.round ?_
          cases hx : evCode X n f pins cur st with
          | none => rw [hx] at hs; cases hs
          | some r =>
            obtain ⟨e1, s1⟩ := r
            rw [hx] at hs
            refine (ih' f cur st s1 e1 hx hnc h fun a' w' h' => ?_).1
            cases e1 with
            | normal => cases hs; exact hQ a' w' h'
            | exit id => cases hs; exact hQ a' w' h'
            | goto l =>
              simp only at hs
              simp only [Ex.to, Exit.inScope]
              cases hf : findLabel c l with
              | some rest =>
                rw [hf] at hs
                exact ihk rest _ a' w' hs (head_at h') (hnr.imp (fun x => x) fun hh => noRange_find c l rest (by simpa only [noRange] using hh) hf)
              | none =>
                rw [hf] at hs
                cases hs
                exact hQ a' w' h'
            | ret => cases hs; exact hQ a' w' h'
      exact go n c st a w hs h (hnr.imp (fun x => x) fun hh => by simpa only [noRange] using hh)
    | exit id => cases hs; exact ⟨wpIn_exit (hQ a w h), by simp⟩
    | goto l => cases hs; exact ⟨wpIn_goto (hQ a w h), by simp⟩
    | ret => cases hs; exact ⟨wpIn_ret (hQ a w h), by simp⟩
    | rangeFunc g ps x y =>
      refine ⟨?_, by simp⟩
      have hro : ro = none := hnr.resolve_right (by simp [noRange])
      subst hro
      simp only at hs
      split at hs
      case h_2 => cases hs
      rename_i gf first caps hv
      split at hs
      · cases hs
      rename_i hext
      obtain ⟨M, ρ, h1, h2, h3, h4, h5⟩ := h
      refine wpIn_rangeFunc (F := FR none) (n := nd) ?_
      intro fn _
      obtain ⟨rec, hrec⟩ : ∃ rec : Loop, rec = { state := .ready, pending := none, fn, tmps := a.tmps, params := ps, assign := x, body := y, defers := w.heap.size } := ⟨_, rfl⟩
      obtain ⟨k1, k2⟩ := h1.pass (Kept.alloc w (.deferred (some [])))
      have hnone : st.H.get st.H.length = none := Heap.get_none_of_le _ _ (Nat.le_refl _)
      obtain ⟨ρ1, g1, g2, g3, g4⟩ := k1.layLoop (f := f) (tm := st.tm) (ps := ps.toList) (x := x) (y := y) (rec := rec) hnone (by rw [hrec]) (by rw [hrec]) (by rw [hrec]) (by rw [hrec]) (by rw [hrec]) (by rw [hrec]; exact h2)
      have hsz : (w.alloc (.deferred (some []))).heap.size = w.heap.size + 1 := by simp
      rw [hsz] at g4
      obtain ⟨W1, hW1⟩ : ∃ W1, (w.alloc (.deferred (some []))).alloc (.loop rec) = W1 := ⟨_, rfl⟩
      rw [hW1] at g1 g2
      have hM1 : W1.heap[w.heap.size]? = some (.deferred (some [])) := by
        rw [← hW1]; exact (Go.RowKit.Below.heap_alloc _ _ _ (by simp)).trans (World.alloc_heap_new w _)
      have hfv := opd_rel hX h1 h2 g
      rw [hv] at hfv
      unfold VRel at hfv
      obtain ⟨f1, c1, he, hf1, hc1⟩ := hfv
      have e12 := k2.trans g2
      have ha : LRel M ρ1 (first ++ [.yield st.H.length] ++ caps) (f1 ++ #[Value.func (.yield (w.heap.size + 1)) #[] #[]] ++ c1).toList := by
        simp only [Array.toList_append]
        refine (((LRel.mono (Mem.le_refl _) g3 _ _ hf1).append ?_).append (LRel.mono (Mem.le_refl _) g3 _ _ hc1))
        unfold LRel LRel VRel
        exact ⟨_, _, rfl, ⟨_, g4, rfl, rfl⟩, rfl⟩
      have hext' : X.ext gf = none := by
        cases hx : X.ext gf with
        | none => rfl
        | some F => rw [hx] at hext; exact absurd rfl hext
      cases hcv : callV X (callWith X (evCode X n)) gf (first ++ [.yield st.H.length] ++ caps) (fun k => (st.H.put st.H.length (some (.loop f st.tm ps.toList x y .ready))).length + k) (st.H.put st.H.length (some (.loop f st.tm ps.toList x y .ready))) with
      | none => rw [hcv] at hs; cases hs
      | some r =>
        rw [hcv] at hs
        simp only at hs
        unfold callV at hcv
        rw [hext'] at hcv
        simp only at hcv
        split at hcv
        · cases hcv
        rename_i hne
        obtain ⟨M1, ρs, as', Hs, v, H', q1, q2, q3, q4⟩ := call_core g1 ha (fresh_seq _) hcv
        obtain ⟨hent, hok⟩ := (hC n (by omega) _ _ _ _ _ q3).1 hne
        have hcl := hok W1 M1 ρs _ q1 q2
        refine ⟨w.heap.size + 1, [mkMark w.heap.size], W1, { target := .fn (.func gf) c1, args := f1 ++ #[Value.func (.yield (w.heap.size + 1)) #[] #[]] }, W1, gf,
          f1 ++ #[Value.func (.yield (w.heap.size + 1)) #[] #[]] ++ c1, W1, ?_, ?_, fun _ _ => trivial, ?_, fun hp => by simp [FR, Fence.wide] at hp, callsIn_FR (hcl.mono ?_)⟩
        · rw [← hW1, hrec]; exact run_enterLoop_outer _ _ _ _ _
        · simp only [Go.resolve, he, Deferred.ofValue]
          simp [Act.eval]
        · simp only [invoke]
          exact callFunc_enter hent _ _
        intro e w' hpost
        obtain ⟨c, M', ρ', rfl, p1, p2, p3, p4⟩ := hpost
        obtain ⟨M2, ρ2, r1, r2, r3, r4⟩ := q4 c w' M' ρ' p1 p2 p3 p4
        have hpl := fix_le r4 g4 rfl
        have hm3 : Marks w0.heap.size w' (mkMark w.heap.size :: a.defers) := by
          have hmw := h3
          have hm1 : Marks w0.heap.size W1 a.defers := hmw.kept h1 e12.kept
          obtain ⟨Ds, hDs, hn, hD⟩ := hm1
          obtain ⟨Ds', hDs', _, hD'⟩ := h3
          have hDD : Ds = Ds' := mkMark_inj (hDs.symm.trans hDs')
          subst hDD
          have hm2 : Marks w0.heap.size W1 (mkMark w.heap.size :: a.defers) := by
            refine ⟨w.heap.size :: Ds, by rw [hDs]; rfl, List.nodup_cons.2 ⟨fun hm => ?_, hn⟩, fun D hm => ?_⟩
            · have := heap_lt (hD' _ hm).2; omega
            · rcases List.mem_cons.1 hm with rfl | hm
              · exact ⟨h4.kept.size, hM1⟩
              · exact hD D hm
          exact hm2.kept g1 r3.kept
        -- what the record says
        have fin : ∀ (f' : FuncId) (tm' : List V) (ps' : List Nat) (x' y' : Code) (s : LS), (putAll (st.H.put st.H.length (some (.loop f st.tm ps.toList x y .ready))) r.wr).get st.H.length = some (.loop f' tm' ps' x' y' s) → s ≠ .over → s ≠ .busy →
            ∃ rec', w'.heap[w.heap.size + 1]? = some (.loop rec') ∧ LoopRel M2 ρ2 f' tm' ps' x' y' s rec' ∧ (Instr.endLoop (w.heap.size + 1)).run X.P w' = .ok rec'.pending (w'.putObj (w.heap.size + 1) (.loop { rec' with state := .exhausted })) ∧
              At B w0 M0 ρ0 H0 pins ⟨st.tm, (putAll (st.H.put st.H.length (some (.loop f st.tm ps.toList x y .ready))) r.wr).put st.H.length (some (.loop f' [] ps' x' y' .over))⟩ { a with defers := [mkMark w.heap.size] ++ a.defers } (w'.putObj (w.heap.size + 1) (.loop { rec' with state := .exhausted })) := by
          intro f' tm' ps' x' y' s hget hno hnb
          obtain ⟨rec', hr1, hr2⟩ := r1.record hpl hget
          have hbusy : rec'.state ≠ .busy := by
            rcases hr2 with hr2 | ⟨_, _, _, _, hr2⟩
            · exact absurd hr2 hno
            · cases s with
              | ready => rw [hr2.1]; simp
              | busy => exact absurd rfl hnb
              | done e => rw [hr2.1]; simp
              | over => exact absurd rfl hno
          refine ⟨rec', hr1, hr2, run_endLoop hr1 hbusy, ?_⟩
          obtain ⟨ρ3, t1, t2, t3⟩ := r1.turnObj (y := .loop f' [] ps' x' y' .over) (o := .loop { rec' with state := .exhausted }) hget rfl hpl rfl hr1 (fun ρ' _ w'' hw => ⟨rfl, _, hw, .inl rfl⟩) (by intros; simp) (by intros; simp)
          refine ⟨M2, ρ3, t1, ?_, hm3.kept r1 t2.kept, ((h4.trans e12).trans r3).trans t2, fun j hj p hp => ?_⟩
          · exact LRel.mono (Mem.le_refl _) t3 _ _ (LRel.mono r3.mem r4 _ _ (LRel.mono (Mem.le_refl _) g3 _ _ h2))
          · obtain ⟨pa, qa1, qa2⟩ := h5 j hj p hp
            obtain ⟨pb, qb1, qb2⟩ := g3 j pa qa1
            obtain ⟨pc, qc1, qc2⟩ := r4 j pb qb1
            obtain ⟨pd, qd1, qd2⟩ := t3 j pc qc1
            exact ⟨pd, qd1, Pl.ext_trans (Pl.ext_trans (Pl.ext_trans qa2 qb2) qc2) qd2⟩
        unfold rangePost
        split at hs
        · rename_i f' tm' ps' x' y' hget
          cases hs
          obtain ⟨rec', hr1, hr2, hr3, hr4⟩ := fin _ _ _ _ _ _ hget (by simp) (by simp)
          have hp : rec'.pending = none := by
            rcases hr2 with hr2 | ⟨_, _, _, _, hr2⟩
            · cases hr2
            · exact hr2.2
          refine ⟨none, _, hr3.trans (by rw [hp]), hQ _ _ hr4⟩
        · rename_i f' tm' ps' x' y' ex' hget
          cases hs
          obtain ⟨rec', hr1, hr2, hr3, hr4⟩ := fin _ _ _ _ _ _ hget (by simp) (by simp)
          have hp : rec'.pending = some ex.code := by
            rcases hr2 with hr2 | ⟨_, _, _, _, hr2⟩
            · cases hr2
            · exact hr2.2
          refine ⟨some ex.code, w'.putObj (w.heap.size + 1) (.loop { rec' with state := .exhausted }), hr3.trans (by rw [hp]), ?_⟩
          have hq := hQ _ _ hr4
          cases ex with
          | normal => exact wpIn_skip hq
          | exit id => exact wpIn_exit hq
          | goto l => exact wpIn_goto hq
          | ret => exact wpIn_ret hq
        · cases hs
    | refuse => cases hs
end
end Go.Ev
/- A frame, from its call to its return. -/
set_option linter.unusedSectionVars false
set_option linter.unusedSimpArgs false
set_option linter.unusedVariables false
namespace Go.Ev
open Go
section
variable {X : Ctx} {B : Mem}

theorem getD_rel {M : Mem} {ρ : Rho} {tm : List V} {a : Act} (h : LRel M ρ tm a.tmps.toList) (t : Nat) : VRel M ρ ((tm[t]?).getD .dead) (a.tmps.getD t undef) := by
  cases ht : tm[t]? with
  | none => simp only [Option.getD_none]; unfold VRel; trivial
  | some v =>
    obtain ⟨x, hx, hr⟩ := h.get ht
    rw [Array.getElem?_toList] at hx
    simp only [Option.getD_some]
    have : a.tmps.getD t undef = x := by
      rw [Array.getD_eq_getD_getElem?, hx]; rfl
    rw [this]; exact hr

def resRun (tmps : Array Value) : ResultVar → Sem Value
  | .tmp t => pure (tmps.getD t undef)
  | .cell a t => do loadVar t (← asAddr (tmps.getD a undef))
theorem results_eq (fn : Func) (tmps : Array Value) : results fn tmps = (do let vs ← fn.results.mapM (resRun tmps); pure (if h : vs.size = 1 then vs[0] else .tuple vs)) := rfl
theorem results_run {fn : Func} {tm : List V} {H : Heap} {r : V} (hr : resultsV X fn tm H = some r) {w : World} {M : Mem} {ρ : Rho} (h : HRel B w M ρ H) {a : Act} (ht : LRel M ρ tm a.tmps.toList) :
    ∃ c, (results fn a.tmps).run X.P w = .ok c w ∧ VRel M ρ r c := by
  unfold resultsV at hr
  obtain ⟨vs, hvs, hr⟩ := Option.bind_eq_some_iff.1 hr
  have key : ∀ (l : List ResultVar) (vs : List V), (l.mapM fun
      | .tmp t => some ((tm[t]?).getD .dead)
      | .cell a t => do
        let (cs, _) ← cellsAt H ((tm[a]?).getD .dead)
        takeV (← aggT X t) (← size X t) cs) = some vs →
      ∃ xs : List Value, (l.mapM (resRun a.tmps)).run X.P w = .ok xs w ∧ LRel M ρ vs xs := by
    intro l
    induction l with
    | nil =>
      intro vs hv
      simp only [List.mapM_nil, Option.pure_def, Option.some.injEq] at hv
      subst hv
      exact ⟨[], rfl, by unfold LRel; rfl⟩
    | cons x l ih =>
      intro vs hv
      rw [List.mapM_cons] at hv
      obtain ⟨v, hx, hv⟩ := Option.bind_eq_some_iff.1 hv
      obtain ⟨rest, hl, hv⟩ := Option.bind_eq_some_iff.1 hv
      simp only [Option.pure_def, Option.some.injEq] at hv
      subst hv
      obtain ⟨xs, h1, h2⟩ := ih rest hl
      have one : ∃ c, (resRun a.tmps x).run X.P w = .ok c w ∧ VRel M ρ v c := by
        cases x with
        | tmp t =>
          simp only [Option.some.injEq] at hx
          subst hx
          exact ⟨_, rfl, getD_rel ht t⟩
        | cell b t =>
          simp only at hx
          obtain ⟨⟨cs, rd⟩, hp, hx⟩ := Option.bind_eq_some_iff.1 hx
          obtain ⟨ag, hag, hx⟩ := Option.bind_eq_some_iff.1 hx
          obtain ⟨n, hn, hx⟩ := Option.bind_eq_some_iff.1 hx
          obtain ⟨ad, hc, hs, hcells⟩ := cellsAt_rel h (getD_rel ht b) hp
          obtain ⟨c, hrun, hr⟩ := run_loadVar' hag hn hs hcells hx
          exact ⟨c, by simp [resRun, hc, asAddr, hrun], hr⟩
      obtain ⟨c, h3, h4⟩ := one
      refine ⟨c :: xs, ?_, by unfold LRel; exact ⟨c, xs, rfl, h4, h2⟩⟩
      rw [List.mapM_cons]
      simp only [Sem.run_bind]
      rw [h3]
      simp only [Result.andThen_ok]
      rw [h1]
      rfl
  obtain ⟨xs, h1, h2⟩ := key _ vs hvs
  have hrun : (results fn a.tmps).run X.P w = .ok (if h : xs.toArray.size = 1 then xs.toArray[0] else .tuple xs.toArray) w := by
    rw [results_eq, Array.mapM_eq_mapM_toList]
    simp only [Sem.run_bind, Sem.run_map]
    rw [h1]
    rfl
  refine ⟨_, hrun, ?_⟩
  split at hr
  · rename_i v
    cases hr
    unfold LRel at h2
    obtain ⟨x, xs', rfl, h3, h4⟩ := h2
    unfold LRel at h4
    subst h4
    simpa using h3
  · rename_i hne
    cases hr
    have hl := h2.length
    rw [dif_neg]
    · unfold VRel; exact ⟨_, rfl, h2⟩
    · intro e
      simp only [List.size_toArray] at e
      cases vs with
      | nil => simp at hl; omega
      | cons v r =>
        cases r with
        | nil => exact hne v rfl
        | cons _ _ => simp at hl; omega

theorem leave_at {f : FuncId} {n : Nat} {r : V} {H : Heap} {w : World} {M : Mem} {ρ : Rho} {c : Value} (h : HRel B w M ρ H) (hr : VRel M ρ r c) {r' : V} {H' : Heap} (hl : leave X f n r H = (r', H')) :
    ∃ M' ρ', HRel B w M' ρ' H' ∧ VRel M' ρ' r' c ∧ Evo w M ρ H w M' ρ' H' ∧ ∀ j, j < n → ρ' j = ρ j := by
  unfold leave at hl
  generalize hq : (if X.keepRes f = true then (r, []) else resolve H 6 r) = q at hl
  obtain ⟨r1, frz⟩ := q
  simp only at hl
  obtain ⟨M1, h1, e1⟩ := h.freezeAll frz
  have hr1 : VRel M1 ρ r1 c := by
    have h0 := VRel.mono e1.mem (Rho.le_refl _) _ _ hr
    by_cases hk : X.keepRes f = true
    · rw [if_pos hk] at hq; cases hq; exact h0
    · rw [if_neg hk] at hq
      exact resolve_rel 6 _ _ _ _ hq (shut_of_freeze h1) h0
  generalize hc : canon n [r1] (freezeRows H frz) = q at hl
  obtain ⟨tm', H1⟩ := q
  obtain ⟨ρ', g1, g2, g3, g4⟩ := canon_at (xs := [c]) h1 (by unfold LRel; exact ⟨c, [], rfl, hr1, by unfold LRel; rfl⟩) n hc
  split at hl
  · rename_i r2 H2 he
    cases he
    cases hl
    unfold LRel at g2
    obtain ⟨x, xs, hx, hv, _⟩ := g2
    cases hx
    exact ⟨M1, ρ', g1, hv, e1.trans g3, g4⟩
  · rename_i hne he
    cases he
    exfalso
    have := g2.length
    cases tm' with
    | nil => simp at this
    | cons v r =>
      cases r with
      | nil => exact hne v rfl
      | cons _ _ => simp at this

/-- A hook's word. -/
def SpecOK (X : Ctx) (B : Mem) : Prop := ∀ f F, X.spec f = some F → ∀ args H r H', F args H = some (r, H') → Enters X.P f ∧ CallOK X.P B f args H r H'
/-- No function of the program's bears the machine's own name. -/
def NamesOK (P : Program) : Prop := ∀ (f : FuncId) (fn : Func), P.funcs[f]? = some fn → (fn.name == "runtime.NumGoroutine") = false

theorem putObj_cell {w : World} {D : Nat} {l l' : Option (List Deferred)} (hD : w.heap[D]? = some (.deferred l)) (a : Addr) : (w.putObj D (.deferred l')).cell? a = w.cell? a ∧ (w.putObj D (.deferred l')).frozen? a = w.frozen? a := by
  have hs : (w.heap.setIfInBounds D (.deferred l'))[D]? = some (.deferred l') := by
    rw [Array.getElem?_setIfInBounds_self, if_pos (heap_lt hD)]
  by_cases e : a.block = D
  · subst e
    unfold World.cell? World.frozen? World.putObj
    simp only [hs, hD]
    simp
  · have hn : (w.heap.setIfInBounds D (.deferred l'))[a.block]? = w.heap[a.block]? := by rw [Array.getElem?_setIfInBounds_ne (Ne.symm e)]
    unfold World.cell? World.frozen? World.putObj
    simp only [hn]
    simp
theorem putObj_shape {w : World} {D : Nat} {l l' : Option (List Deferred)} (hD : w.heap[D]? = some (.deferred l)) (r : Nat) : (w.putObj D (.deferred l')).shape? r = w.shape? r := by
  by_cases e : r = D
  · subst e
    unfold World.shape?
    rw [World.putObj_heap_same (heap_lt hD), hD]
  · exact shape_heap (World.putObj_heap_other e)
/-- A mark's block is shut. -/
theorem HRel.mark {w : World} {M : Mem} {ρ : Rho} {H : Heap} (h : HRel B w M ρ H) {D : Nat} {l l' : Option (List Deferred)} (hD : w.heap[D]? = some (.deferred l)) : HRel B (w.putObj D (.deferred l')) M ρ H := by
  obtain ⟨n1, n2⟩ := not_own h hD
  refine ⟨h.base, fun a x hx => by rw [(putObj_cell hD a).1]; exact h.mem a x hx, h.dom, fun b x p hb hp => ?_, h.sep, h.sepo, fun b p t hp ht => by rw [putObj_shape hD]; exact h.shp b p t hp ht, h.off0⟩
  refine (h.rel b x p hb hp).mono (Mem.le_refl _) (Rho.le_refl _) (fun j hj => ?_) (fun ho => ?_)
  · exact .inl ⟨(putObj_cell hD _).1, (putObj_cell hD _).2, id⟩
  · refine World.putObj_heap_other fun e => n2 ⟨b, x, p, hb, ho, hp, e.symm⟩
theorem Evo.mark {w0 w : World} {M0 M : Mem} {ρ0 ρ : Rho} {H0 H : Heap} (e : Evo w0 M0 ρ0 H0 w M ρ H) {D : Nat} {l l' : Option (List Deferred)} (hD : w.heap[D]? = some (.deferred l)) (hn : w0.heap.size ≤ D) : Evo w0 M0 ρ0 H0 (w.putObj D (.deferred l')) M ρ H := by
  refine ⟨⟨e.kept.os, e.kept.tape, e.kept.output, by rw [World.putObj_size]; exact e.kept.size, fun r hr ha hb => ?_, fun a hl hn => ?_, fun a hl hn => ?_, fun r hr => by rw [putObj_shape hD]; exact e.kept.shp r hr⟩, e.mem, e.memnew, e.own, e.obj⟩
  · rw [World.putObj_heap_other (by omega)]; exact e.kept.blk r hr ha hb
  · rw [(putObj_cell hD a).1]; exact e.kept.cell a hl hn
  · rw [(putObj_cell hD a).2]; exact e.kept.frz a hl hn
theorem leaves_marks {nd : Nat} {P : Program} {fn : Func} {tmps : Array Value} {R : Ending → World → Prop} {w0 : World} {M0 M : Mem} {ρ0 ρ : Rho} {H0 H : Heap} :
    ∀ (Ds : List Nat) (w : World), Ds.Nodup → (∀ D ∈ Ds, w0.heap.size ≤ D ∧ w.heap[D]? = some (.deferred (some []))) → HRel B w M ρ H → Evo w0 M0 ρ0 H0 w M ρ H →
      (∀ w', HRel B w' M ρ H → Evo w0 M0 ρ0 H0 w' M ρ H → ∃ v, (results fn tmps).run P w' = .ok v w' ∧ R (.returned v) w') → LeavesInM (FR none) nd P fn tmps R (Ds.map mkMark) .returning w
  | [], w, _, _, h, e, k => k w h e
  | D :: Ds, w, hn, hD, h, e, k => by
    obtain ⟨hn1, hn2⟩ := List.nodup_cons.1 hn
    obtain ⟨g1, g2⟩ := hD D List.mem_cons_self
    refine ⟨by simp, .inl ⟨D, w.putObj D (.deferred none), rfl, run_takeDeferred g2, ?_⟩⟩
    refine leaves_marks Ds _ hn2 (fun D' hm => ?_) (h.mark g2) (e.mark g2 g1) k
    obtain ⟨q1, q2⟩ := hD D' (List.mem_cons_of_mem _ hm)
    exact ⟨q1, by rw [World.putObj_heap_other (fun e => hn1 (by rw [← e]; exact hm))]; exact q2⟩

/- a round -/
theorem foldl_set_rel {M : Mem} {ρ : Rho} : ∀ (ps : List Nat) (ys : List V) (xs : List Value) (tm : List V) (ts : Array Value), LRel M ρ ys xs → LRel M ρ tm ts.toList →
    LRel M ρ ((ps.zip ys).foldl (fun t p => t.set p.1 p.2) tm) ((ps.zip xs).foldl (fun (t : Array Value) p => t.setIfInBounds p.1 p.2) ts).toList
  | [], ys, xs, tm, ts, _, h => by simpa using h
  | p :: ps, [], xs, tm, ts, hy, h => by
    unfold LRel at hy
    subst hy
    simpa using h
  | p :: ps, y :: ys, xs, tm, ts, hy, h => by
    unfold LRel at hy
    obtain ⟨x, xs', rfl, h1, h2⟩ := hy
    simp only [List.zip_cons_cons, List.foldl_cons]
    refine foldl_set_rel ps ys xs' _ _ h2 ?_
    rw [Array.toList_setIfInBounds]
    exact h.set p h1
theorem zip_fold (ps : Array Nat) (xs : List Value) (ts : Array Value) : ((ps.zip xs.toArray).foldl (fun tmps (t, a) => tmps.setIfInBounds t a) ts) = ((ps.toList.zip xs).foldl (fun (t : Array Value) p => t.setIfInBounds p.1 p.2) ts) := by
  rw [← Array.foldl_toList]
  simp

theorem round_sound (hm : X.P.follows .mixedOrders = true) (hX : CtxOK X B) {n : Nat} (ih : ∀ k, k < n → CallsOK X.P B (callWith X (evCode X k))) {args : List V} {H H' : Heap} {r : V} (hc : roundWith X (evCode X n) args H = some (r, H')) : RoundOK X.P B args H r H' := by
  intro w M ρ cargs h ha nd
  unfold roundWith at hc
  split at hc
  case h_2 => cases hc
  rename_i b ys
  split at hc
  case h_2 => cases hc
  rename_i fn tm ps x y hget
  split at hc
  case isFalse => cases hc
  rename_i hcond
  simp only [Bool.and_eq_true, decide_eq_true_eq] at hcond
  obtain ⟨⟨⟨c1, c2⟩, c3⟩, c4⟩ := hcond
  split at hc
  case h_2 => cases hc
  rename_i st1 hst1
  split at hc
  case h_2 => cases hc
  rename_i fn1 tm1 ps1 x1 y1 hget1
  split at hc
  case h_2 => cases hc
  rename_i ex st2 hst2
  split at hc
  case h_2 => cases hc
  rename_i fn2 tm2 ps2 x2 y2 hget2
  simp only [Option.some.injEq] at hc
  unfold LRel at ha
  obtain ⟨cy, xs, hcargs, hy, hys⟩ := ha
  unfold VRel at hy
  obtain ⟨p, hp, hfix, rfl⟩ := hy
  obtain ⟨rec, hrec, hrel⟩ := h.record hp hget
  rcases hrel with hrel | ⟨hr1, hr2, hr3, hr4, hr5, hr6⟩
  · cases hrel
  have hlen := hys.length
  have hsz : rec.params.size = ps.length := by rw [← hr1]; simp
  refine ⟨p.block, xs.toArray, ?_, rec.fn, _, rec.assign, rec.body, run_yield hrec (by simp; omega), ?_⟩
  · rw [← Array.toList_inj, hcargs]; simp
  rw [zip_fold, hr1]
  have hat : At B w M ρ H H.length ⟨(ps.zip ys).foldl (fun t p => t.set p.1 p.2) tm, H⟩ { tmps := (ps.zip xs).foldl (fun (t : Array Value) p => t.setIfInBounds p.1 p.2) rec.tmps, defers := [] } w :=
    ⟨M, ρ, h, foldl_set_rel _ _ _ _ _ hys hr4, Marks.nil _ _, Evo.refl _ _ _ _, fun j hj p hp => ⟨p, hp, p.ext_refl⟩⟩
  refine roundIn_of_wpIn (F := FR none) trivial ?_
  show rec.assign.wpIn (FR (some p.block)) nd X.P _ _ w
  rw [hr2]
  refine (evCode_sound hm hX n ih (some p.block) nd fn x _ st1 .normal hst1 (.inr c2) hat fun a1 w1 h1 => ?_).1
  obtain ⟨M1, ρ1, g1, g2, g3, g4, g5⟩ := h1
  obtain ⟨p1, hp1, _, _, hpe⟩ := g5 b c4 p hp
  have := hpe hfix
  subst this
  obtain ⟨rec1, hrec1, hrel1⟩ := g1.record hp1 hget1
  rcases hrel1 with hrel1 | ⟨k1, k2, k3, k4, k5, k6⟩
  · cases hrel1
  refine ⟨_, run_beginRound hrec1 k5, ?_⟩
  obtain ⟨ρ2, t1, t2, t3⟩ := g1.turnObj (y := .loop fn1 tm1 ps1 x1 y1 .busy) (o := .loop { rec1 with state := .busy }) hget1 rfl hp1 rfl hrec1
    (fun ρ' hle w'' hw => ⟨hfix, _, hw, .inr ⟨k1, k2, k3, LRel.mono (Mem.le_refl _) hle _ _ k4, rfl⟩⟩) (by intros; simp) (by intros; simp)
  have hat2 : At B w M ρ H H.length ⟨st1.tm, st1.H.put b (some (.loop fn1 tm1 ps1 x1 y1 .busy))⟩ a1 (w1.putObj p1.block (.loop { rec1 with state := .busy })) :=
    ⟨M1, ρ2, t1, LRel.mono (Mem.le_refl _) t3 _ _ g2, g3.kept g1 t2.kept, g4.trans t2, fun j hj q hq => by
      obtain ⟨q1, e1, e2⟩ := g5 j hj q hq
      obtain ⟨q2, e3, e4⟩ := t3 j q1 e1
      exact ⟨q2, e3, Pl.ext_trans e2 e4⟩⟩
  show rec.body.wpIn (FR (some p1.block)) nd X.P _ _ _
  rw [hr3]
  refine (evCode_sound hm hX n ih (some p1.block) nd fn y _ st2 ex hst2 (.inr c3) hat2 fun a2 w2 h2 => ?_).1
  obtain ⟨M3, ρ3, q1, q2, q3, q4, q5⟩ := h2
  obtain ⟨p3, hp3, _, _, hpe3⟩ := q5 b c4 p1 hp
  have := hpe3 hfix
  subst this
  obtain ⟨rec3, hrec3, hrel3⟩ := q1.record hp3 hget2
  rcases hrel3 with hrel3 | ⟨l1, l2, l3, l4, l5⟩
  · cases hrel3
  have fin : ∀ jump : Option Code, (jump = if ex = .normal then none else some ex.code) → ∃ v w', (Instr.endRound p3.block jump).run X.P w2 = .ok v w' ∧ ∃ c M' ρ', Ending.returned v = .returned c ∧ HRel B w' M' ρ' H' ∧ VRel M' ρ' r c ∧ Evo w M ρ H w' M' ρ' H' ∧
      ∀ j, j < H.length → ∀ p, ρ j = some p → ∃ p', ρ' j = some p' ∧ p.ext p' := by
    intro jump hj
    refine ⟨_, _, run_endRound jump hrec3, ?_⟩
    obtain ⟨ρ4, u1, u2, u3⟩ := q1.turnObj (y := .loop fn2 tm2 ps2 x2 y2 (if ex = .normal then .ready else .done ex)) (o := .loop { rec3 with state := if jump.isNone then .ready else .done, pending := jump }) hget2 rfl hp3 rfl hrec3
      (fun ρ' hle w'' hw => ⟨hfix, _, hw, .inr ⟨l1, l2, l3, LRel.mono (Mem.le_refl _) hle _ _ l4, by
        subst hj
        by_cases he : ex = .normal
        · simp [he]
        · simp [he]⟩⟩) (by intros; simp) (by intros; simp)
    have hb : VRel M3 ρ4 (.bool (decide (ex = .normal))) (.bool jump.isNone) := by
      unfold VRel
      subst hj
      by_cases he : ex = .normal <;> simp [he]
    obtain ⟨M5, ρ5, v1, v2, v3, v4⟩ := leave_at u1 hb hc
    exact ⟨_, M5, ρ5, rfl, v1, v2, (q4.trans u2).trans v3, fun j hj q hq => by
      obtain ⟨q1, e1, e2⟩ := q5 j hj q hq
      obtain ⟨q2, e3, e4⟩ := u3 j q1 e1
      exact ⟨q2, by rw [v4 j hj]; exact e3, Pl.ext_trans e2 e4⟩⟩
  cases ex with
  | normal => exact fin none (by simp)
  | exit id => exact fin (some (.exit id)) (by simp [Ex.code])
  | goto l => exact fin (some (.goto l)) (by simp [Ex.code])
  | ret => exact fin (some .ret) (by simp [Ex.code])

theorem evCall_sound (hm : X.P.follows .mixedOrders = true) (hX : CtxOK X B) (hN : NamesOK X.P) (hS : SpecOK X B) : ∀ n, CallsOK X.P B (callWith X (evCode X n)) := by
  intro n
  induction n using Nat.strongRecOn with
  | _ n ih =>
    intro f args H r H' hc
    unfold callWith at hc
    split at hc
    · rename_i hy
      exact ⟨fun hn => absurd hy hn, fun _ => round_sound hm hX ih hc⟩
    refine ⟨fun _ => ?_, fun hy => absurd hy (by assumption)⟩
    split at hc
    · rename_i F hF
      exact hS f F hF args H r H' hc
    · split at hc
      · cases hc
      · rename_i fn hfn
        split at hc
        · cases hc
        · rename_i c hb
          refine ⟨⟨fn, hfn, hN f fn hfn, by rw [hb]; rfl⟩, ?_⟩
          intro w M ρ cargs h ha
          have go : ∀ st, (∃ ex, evCode X n f H.length c ⟨args ++ List.replicate (fn.ntmps - args.length) .dead, H⟩ = some (ex, st) ∧ (ex = .normal ∨ ex = .ret)) →
              (match resultsV X fn st.tm st.H with
                | some r => some (leave X f H.length r st.H)
                | none => none) = some (r, H') →
              Calls X.P f cargs w fun e w' => ∃ c M' ρ', e = .returned c ∧ HRel B w' M' ρ' H' ∧ VRel M' ρ' r c ∧ Evo w M ρ H w' M' ρ' H' ∧
                ∀ j, j < H.length → ∀ p, ρ j = some p → ∃ p', ρ' j = some p' ∧ p.ext p' := by
            rintro st ⟨ex, hev, hex⟩ hres
            refine calls_FR (r := none) (n := 0) (callsIn_of_wp_marks hfn hb trivial ?_)
            have hat : At B w M ρ H H.length ⟨args ++ List.replicate (fn.ntmps - args.length) .dead, H⟩ { tmps := cargs ++ Array.replicate (fn.ntmps - cargs.size) undef, defers := [] } w := by
              refine ⟨M, ρ, h, ?_, Marks.nil _ _, Evo.refl _ _ _ _, fun j hj p hp => ⟨p, hp, p.ext_refl⟩⟩
              simp only [Array.toList_append, Array.toList_replicate]
              refine ha.append (LRel.replicate_dead _ _ ?_)
              have := ha.length
              simp only [Array.length_toList] at this
              simp [this]
            refine (evCode_sound hm hX n ih none 0 f c _ st ex hev (.inl rfl) hat fun a' w' h' => ?_).1
            obtain ⟨M', ρ', g1, g2, g3, g4, g5⟩ := h'
            cases hrv : resultsV X fn st.tm st.H with
            | none => rw [hrv] at hres; cases hres
            | some rv =>
              rw [hrv] at hres
              simp only [Option.some.injEq] at hres
              obtain ⟨Ds, hDs, hnd, hD⟩ := g3
              have post : LeavesInM (FR none) 0 X.P fn a'.tmps (fun e w' => ∃ c M' ρ', e = .returned c ∧ HRel B w' M' ρ' H' ∧ VRel M' ρ' r c ∧ Evo w M ρ H w' M' ρ' H' ∧
                ∀ j, j < H.length → ∀ p, ρ j = some p → ∃ p', ρ' j = some p' ∧ p.ext p') a'.defers .returning w' := by
                rw [hDs]
                refine leaves_marks Ds w' hnd hD g1 g4 fun w2 q1 q2 => ?_
                obtain ⟨c', k1, k2⟩ := results_run hrv q1 g2
                obtain ⟨M2, ρ2, l1, l2, l3, l4⟩ := leave_at q1 k2 hres
                exact ⟨c', k1, c', M2, ρ2, rfl, l1, l2, q2.trans l3, fun j hj p hp => by rw [l4 j hj]; exact g5 j hj p hp⟩
              rcases hex with rfl | rfl <;> exact post
          split at hc
          · rename_i st hst
            exact go st ⟨_, hst, .inl rfl⟩ hc
          · rename_i st hst
            exact go st ⟨_, hst, .inr rfl⟩ hc
          · cases hc
end
end Go.Ev
