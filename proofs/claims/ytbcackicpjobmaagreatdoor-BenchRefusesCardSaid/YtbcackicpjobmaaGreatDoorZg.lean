/- A part of the proof of BenchRefuses: no statement of the seat's stands here. -/
import Derived.Test.YtbcackicpjobmaaGreatDoorZf
set_option linter.unusedSectionVars false
set_option linter.unusedSimpArgs false
set_option linter.unusedVariables false
set_option linter.all false
/- The walk itself, and that it walks as the evaluator does. -/
set_option linter.unusedVariables false
namespace Go.Ev
open Go
section
variable {γ : Type}
noncomputable def setD (N : Nat) (dst : Option Nat) (t : RT) (v : V) (k : RT → Option γ) : Option γ := match dst with
  | none => k t
  | some d => match Nat.blt d N with
    | true => RT.setK (pathOf d) t v k
    | false => none
theorem setD_ok {N dst t v} {k : RT → Option γ} {tm : List V} {r : γ} (hr : RR N t tm) (h : setD N dst t v k = some r) : ∃ t', RR N t' (putTm tm dst v) ∧ k t' = some r := by
  cases dst with
  | none => exact ⟨t, hr, h⟩
  | some d =>
    simp only [setD] at h
    split at h
    · rename_i hd
      rw [RT.setK_eq] at h
      exact ⟨_, hr.set (by simpa [Nat.blt_eq] using hd) v, h⟩
    · cases h
noncomputable def resK (N : Nat) (dst : Option Nat) (t : RT) (H : Heap) (k : RT → Heap → List Nat → List (Nat × Blk) → Option γ) (r : Option Res) : Option γ := match r with
  | none => none
  | some ⟨v, wr, rd⟩ => shV v fun v => setD N dst t v fun t => putF wr H fun H => k t H rd wr
noncomputable def wantedF (ops : Array Oper) (o : Oper) (N : Nat) (t : RT) : Option Bool :=
  match o.guard with
  | none => some true
  | some (j, want) => match (ops[j]?).bind (·.dst) with
    | none => none
    | some d => match Nat.blt d N with
      | false => none
      | true => match t.get (pathOf d) with
        | .bool b => some (b == want)
        | .tuple [] => some false
        | _ => none
theorem wantedF_ok {ops o N t tm b} (hr : RR N t tm) (h : wantedF ops o N t = some b) : wantedV ops o tm = some b := by
  unfold wantedF at h
  unfold wantedV
  cases hg : o.guard with
  | none => rw [hg] at h; exact h
  | some p =>
    obtain ⟨j, want⟩ := p
    rw [hg] at h
    simp only at h ⊢
    cases hd : (ops[j]?).bind (·.dst) with
    | none => rw [hd] at h; cases h
    | some d =>
      rw [hd] at h
      simp only at h ⊢
      split at h
      · cases h
      · rename_i hlt
        have hlt : d < tm.length := by rw [hr.len]; simpa [Nat.blt_eq] using hlt
        rw [hr.get] at h
        rw [List.getElem?_eq_getElem hlt] at h ⊢
        revert h
        generalize tm[d] = x
        intro h
        cases x <;> first | exact h | cases h | skip
        rename_i l
        cases l <;> first | exact h | cases h
section
variable (X : Ctx)
theorem opdF_eq {N t tm} (hr : RR N t tm) : opdF X t = opd X tm := by
  funext x
  cases x with
  | tmp i => exact hr.get i
  | const v => rfl
  | global g => rfl
  | func f => rfl
noncomputable def stepF (call : CallFn) (ops : Array Oper) (N : Nat) (fresh : Nat → Nat) (o : Oper) (t : RT) (H : Heap) (k : RT → Heap → List Nat → List (Nat × Blk) → Option γ) : Option γ :=
  match wantedF ops o N t with
  | some true => resK N o.dst t H k (opK X (callVF X call fresh H) (fun as => callP false call yieldId as fresh H) o.op fresh (opdF X t) H)
  | some false => setD N o.dst t (.tuple []) fun t => k t H [] []
  | none => none
theorem stepF_ok {call call' : CallFn} (hc : CallLe call call') {ops : Array Oper} {N : Nat} {fresh : Nat → Nat → Nat} {i : Nat} {o : Oper} {t : RT} {H : Heap} {tm : List V} {k : RT → Heap → List Nat → List (Nat × Blk) → Option γ} {r : γ}
    (hr : RR N t tm) (ho : ops[i]? = some o) (h : stepF X call ops N (fresh i) o t H k = some r) :
    ∃ tm' H' rd wr t', evStep X call' ops fresh i ⟨tm, H⟩ = some (⟨tm', H'⟩, rd, wr.map (·.1)) ∧ RR N t' tm' ∧ k t' H' rd wr = some r := by
  unfold stepF at h
  unfold evStep
  rw [ho]
  simp only
  split at h
  · rename_i hw
    rw [wantedF_ok hr hw]
    simp only
    unfold resK at h
    split at h
    · cases h
    · rename_i v wr rd hop
      have h2 : evOp X call' o (fresh i) tm H = some ⟨v, wr, rd⟩ := by
        unfold evOp
        rw [← opK_eq, ← opdF_eq X hr]
        refine opK_le (fun f as r h => ?_) (fun as r h => callP_le hc h) hop
        exact callV_le hc (callVF_eq X h)
      rw [h2]
      rw [shV_eq] at h
      obtain ⟨t', h3, h4⟩ := setD_ok hr h
      rw [putF_eq] at h4
      exact ⟨_, _, _, _, t', rfl, h3, h4⟩
  · rename_i hw
    rw [wantedF_ok hr hw]
    obtain ⟨t', h3, h4⟩ := setD_ok hr h
    exact ⟨_, _, _, [], t', rfl, h3, h4⟩
  · cases h
noncomputable def seqF (call : CallFn) (ops : Array Oper) (N : Nat) (l : List Oper) : RT → Heap → (RT → Heap → Option γ) → Option γ :=
  List.rec (motive := fun _ => RT → Heap → (RT → Heap → Option γ) → Option γ) (fun t H k => k t H) (fun o _ ih t H k => stepF X call ops N (fun j => H.length + j) o t H fun t H _ _ => ih t H k) l
theorem seqF_ok {call call' : CallFn} (hc : CallLe call call') {ops : Array Oper} {N : Nat} {k : RT → Heap → Option γ} {r : γ} : ∀ (l : List Oper) (i : Nat) (t : RT) (H : Heap) (tm : List V),
    (∀ j, ops[i + j]? = l[j]?) → RR N t tm → seqF X call ops N l t H k = some r → ∃ tm' H' t', evSeq X call' ops l.length i ⟨tm, H⟩ = some ⟨tm', H'⟩ ∧ RR N t' tm' ∧ k t' H' = some r
  | [], i, t, H, tm, hl, hr, h => ⟨tm, H, t, rfl, hr, h⟩
  | o :: l, i, t, H, tm, hl, hr, h => by
    have h' : stepF X call ops N (fun j => H.length + j) o t H (fun t H _ _ => seqF X call ops N l t H k) = some r := h
    have ho : ops[i]? = some o := by simpa using hl 0
    obtain ⟨tm1, H1, rd, wr, t1, e1, r1, k1⟩ := stepF_ok X hc (fresh := fun _ j => H.length + j) hr ho h'
    obtain ⟨tm2, H2, t2, e2, r2, k2⟩ := seqF_ok hc l (i + 1) t1 H1 tm1 (fun j => by have := hl (j + 1); simpa [Nat.add_assoc, Nat.add_comm 1 j] using this) r1 k1
    refine ⟨tm2, H2, t2, ?_, r2, k2⟩
    show (match evStep X call' ops (fun _ k => H.length + k) i ⟨tm, H⟩ with | some (st', _) => evSeq X call' ops l.length (i + 1) st' | none => none) = _
    rw [e1]
    exact e2
noncomputable def traceF (call : CallFn) (ops : Array Oper) (N n0 : Nat) (l : List Oper) : Nat → RT → Heap → (RT → Heap → List Foot → Option γ) → Option γ :=
  List.rec (motive := fun _ => Nat → RT → Heap → (RT → Heap → List Foot → Option γ) → Option γ) (fun i t H k => k t H [])
    (fun o _ ih i t H k => stepF X call ops N (fun j => n0 + j * ops.size + i) o t H fun t H rd wr => ih (Nat.succ i) t H fun t H l => k t H (⟨i, rd, wr.map (·.1)⟩ :: l)) l
theorem traceF_ok {call call' : CallFn} (hc : CallLe call call') {ops : Array Oper} {N n0 : Nat} {r : γ} : ∀ (l : List Oper) (i : Nat) (t : RT) (H : Heap) (tm : List V) (k : RT → Heap → List Foot → Option γ),
    (∀ j, ops[i + j]? = l[j]?) → RR N t tm → traceF X call ops N n0 l i t H k = some r →
    ∃ tm' H' t' ft, evTrace X call' ops (fun i k => n0 + k * ops.size + i) (List.range' i l.length) ⟨tm, H⟩ = some (⟨tm', H'⟩, ft) ∧ ft.map (·.i) = List.range' i l.length ∧ RR N t' tm' ∧ k t' H' ft = some r
  | [], i, t, H, tm, k, hl, hr, h => ⟨tm, H, t, [], rfl, rfl, hr, h⟩
  | o :: l, i, t, H, tm, k, hl, hr, h => by
    have h' : stepF X call ops N (fun j => n0 + j * ops.size + i) o t H (fun t H rd wr => traceF X call ops N n0 l (i + 1) t H fun t H l => k t H (⟨i, rd, wr.map (·.1)⟩ :: l)) = some r := h
    have ho : ops[i]? = some o := by simpa using hl 0
    obtain ⟨tm1, H1, rd, wr, t1, e1, r1, k1⟩ := stepF_ok X hc (fresh := fun i j => n0 + j * ops.size + i) hr ho h'
    obtain ⟨tm2, H2, t2, ft, e2, f2, r2, k2⟩ := traceF_ok hc l (i + 1) t1 H1 tm1 _ (fun j => by have := hl (j + 1); simpa [Nat.add_assoc, Nat.add_comm 1 j] using this) r1 k1
    refine ⟨tm2, H2, t2, ⟨i, rd, wr.map (·.1)⟩ :: ft, ?_, ?_, r2, k2⟩
    · rw [List.length_cons, List.range'_succ]
      unfold evTrace
      rw [e1]
      simp only
      rw [e2]
    · rw [List.length_cons, List.range'_succ, List.map_cons, f2]
def statOk (ops : Array Oper) (bef : Array Nat) (i j : Nat) : Bool := (bef.getD j 0).testBit i || match ops[i]?, ops[j]? with
  | some x, some y => Oper.apart ops x y
  | _, _ => false
def statAll (ops : Array Oper) (bef : Array Nat) : List Nat → Bool
  | [] => true
  | i :: r => r.all (statOk ops bef i) && statAll ops bef r
noncomputable def quiet (l : List Foot) : Bool := List.rec (motive := fun _ => Bool) true (fun f _ ih => Foot.rec (motive := fun _ => Bool) (fun _ _ wr => List.rec (motive := fun _ => Bool) ih (fun _ _ _ => false) wr) f) l
theorem quiet_ok : ∀ {l : List Foot}, quiet l = true → ∀ f ∈ l, f.wr = []
  | [], _, f, hf => by cases hf
  | ⟨i, rd, wr⟩ :: r, h, f, hf => by
    cases wr with
    | nil =>
      have h' : quiet r = true := h
      rcases List.mem_cons.1 hf with rfl | hf
      · rfl
      · exact quiet_ok h' f hf
    | cons a b =>
      have h' : false = true := h
      cases h'
theorem turn_ok {ops : Array Oper} {bef : Array Nat} : ∀ {l : List Foot}, (∀ f ∈ l, f.wr = []) → statAll ops bef (l.map (·.i)) = true → allTurn ops bef l = true
  | [], _, _ => rfl
  | f :: r, hq, h => by
    simp only [List.map_cons, statAll, Bool.and_eq_true] at h
    simp only [allTurn, Bool.and_eq_true]
    refine ⟨List.all_eq_true.2 fun g hg => ?_, turn_ok (fun g hg => hq g (List.mem_cons_of_mem _ hg)) h.2⟩
    have h1 := List.all_eq_true.1 h.1 g.i (List.mem_map.2 ⟨g, hg, rfl⟩)
    have hf := hq f List.mem_cons_self
    have hg' := hq g (List.mem_cons_of_mem _ hg)
    unfold mayTurn
    unfold statOk at h1
    rcases Bool.or_eq_true_iff.1 h1 with h1 | h1
    · rw [h1]; rfl
    · have ha : Foot.apart f g = true := by
        unfold Foot.apart disjoint
        rw [hf, hg']
        simp
      rw [ha, Bool.true_and]
      rw [Bool.or_eq_true]
      exact .inr h1
noncomputable def drawOk (ops : Array Oper) (n0 : Nat) (l : List Foot) : Bool :=
  match quiet l with
  | true => match statAll ops (Region.before ops) (List.range' 0 ops.size) with
    | true => afterOk ops
    | false => false
  | false => afterOk ops && allTurn ops (Region.before ops) l && l.all (wrOk n0 ops.size (Region.before ops))
theorem drawOk_ok {ops n0 l} (hl : l.map (·.i) = List.range' 0 ops.size) (h : drawOk ops n0 l = true) : (afterOk ops && allTurn ops (Region.before ops) l && l.all (wrOk n0 ops.size (Region.before ops))) = true := by
  unfold drawOk at h
  split at h
  · rename_i hq
    have hq := quiet_ok hq
    split at h
    · rename_i hs
      rw [← hl] at hs
      rw [h, turn_ok hq hs, Bool.true_and, Bool.true_and]
      refine List.all_eq_true.2 fun f hf => ?_
      unfold wrOk
      rw [hq f hf]
      rfl
    · cases h
  · exact h
noncomputable def regionF (call : CallFn) (ops : Array Oper) (draw : Bool) (N : Nat) (t : RT) (H : Heap) (k : RT → Heap → Option γ) : Option γ :=
  match draw with
  | false => seqF X call ops N ops.toList t H k
  | true => traceF X call ops N H.length ops.toList 0 t H fun t H' l => match drawOk ops H.length l with
    | true => k t H'
    | false => none
theorem regionF_ok {call call' : CallFn} (hc : CallLe call call') {ops : Array Oper} {draw : Bool} {N : Nat} {t : RT} {H : Heap} {tm : List V} {k : RT → Heap → Option γ} {r : γ} (hr : RR N t tm)
    (h : regionF X call ops draw N t H k = some r) : ∃ tm' H' t', evRegion X call' ops draw ⟨tm, H⟩ = some ⟨tm', H'⟩ ∧ RR N t' tm' ∧ k t' H' = some r := by
  unfold regionF at h
  have hl : ∀ j, ops[0 + j]? = ops.toList[j]? := fun j => by simp
  cases draw with
  | false =>
    obtain ⟨tm', H', t', e, r', k'⟩ := seqF_ok X hc ops.toList 0 t H tm hl hr h
    refine ⟨tm', H', t', ?_, r', k'⟩
    rw [← e]
    rfl
  | true =>
    obtain ⟨tm', H', t', ft, e, f', r', k'⟩ := traceF_ok X hc ops.toList 0 t H tm _ hl hr h
    split at k'
    · rename_i hd
      have hs : ops.toList.length = ops.size := rfl
      rw [hs] at e f'
      refine ⟨tm', H', t', ?_, r', k'⟩
      unfold evRegion
      rw [if_pos rfl, List.range_eq_range']
      simp only
      rw [e]
      simp only
      rw [if_pos (drawOk_ok f' hd)]
    · cases k'
end
end
end Go.Ev
/- Codes and calls. -/
set_option linter.unusedVariables false
namespace Go.Ev
open Go
abbrev KF := Ex → RT → Heap → Option (V × Heap)
abbrev EvT := FuncId → Nat → Nat → Code → RT → Heap → KF → Option (V × Heap)
section
variable (X : Ctx)
/-- Clears slots. -/
noncomputable def clearK (N : Nat) (l : List Nat) : RT → (RT → Option (V × Heap)) → Option (V × Heap) := List.rec (motive := fun _ => RT → (RT → Option (V × Heap)) → Option (V × Heap)) (fun t k => k t)
  (fun i _ ih t k => match Nat.blt i N with
    | true => RT.setK (pathOf i) t .dead fun t => ih t k
    | false => ih t k) l
theorem clearK_ok {N : Nat} {k : RT → Option (V × Heap)} {r : V × Heap} : ∀ {l : List Nat} {t : RT} {tm : List V}, RR N t tm → clearK N l t k = some r → ∃ t', RR N t' (clearTm l tm) ∧ k t' = some r
  | [], t, tm, hr, h => ⟨t, hr, h⟩
  | i :: l, t, tm, hr, h => by
    have h' : (match Nat.blt i N with
      | true => RT.setK (pathOf i) t .dead fun t => clearK N l t k
      | false => clearK N l t k) = some r := h
    split at h'
    · rename_i hi
      rw [RT.setK_eq] at h'
      exact clearK_ok (l := l) (hr.set (by simpa [Nat.blt_eq] using hi) .dead) h'
    · rename_i hi
      have hge : N ≤ i := by
        have : ¬ (i < N) := fun h => by rw [← Nat.blt_eq] at h; rw [h] at hi; cases hi
        omega
      have : tm.set i .dead = tm := List.set_eq_of_length_le (by rw [hr.len]; exact hge)
      have e : clearTm (i :: l) tm = clearTm l tm := by
        show clearTm l (tm.set i .dead) = _
        rw [this]
      rw [e]
      exact clearK_ok (l := l) hr h'
/-- The plain form of a frame, where it is not so yet. -/
noncomputable def canonQ (pins : Nat) (tm : List V) (H : Heap) : Option (List V × Heap) :=
  match reachF H (List.range pins ++ refsLF tm) with
  | none => none
  | some l0 => fNats (List.range pins ++ l0.filter (fun b => decide (pins ≤ b))) fun l =>
    if H.length = l.length && l == List.range l.length then none
    else some (renLF (indexOf · l 0) tm, subHeapF H l)
theorem canonQ_eq (pins : Nat) (tm : List V) (H : Heap) : canon pins tm H = (canonQ pins tm H).getD (tm, H) := by
  unfold canon canonQ
  simp only [reachF_eq, refsLF_eq, fNats_eq, renLF_eq, subHeapF_eq]
  cases reach H (List.range pins ++ refsL tm) with
  | none => rfl
  | some l0 =>
    simp only
    split <;> rfl
noncomputable def canonK (pins N : Nat) (t : RT) (H : Heap) (k : RT → Heap → Option (V × Heap)) : Option (V × Heap) :=
  match canonQ pins (tmsOf t N) H with
  | none => k t H
  | some (tm, H) => fL tm fun tm => fH H fun H => k (ofArgs tm 0 .nil) H
theorem canonQ_length {pins tm H tm' H'} (h : canonQ pins tm H = some (tm', H')) : tm'.length = tm.length := by
  unfold canonQ at h
  simp only [reachF_eq, refsLF_eq, fNats_eq, renLF_eq, subHeapF_eq] at h
  split at h
  · cases h
  · split at h
    · cases h
    · cases h; exact renL_length _
theorem canonK_ok {pins N t H k r} {tm : List V} (hr : RR N t tm) (h : canonK pins N t H k = some r) : ∃ t', RR N t' (canon pins tm H).1 ∧ k t' (canon pins tm H).2 = some r := by
  unfold canonK at h
  rw [hr.tms] at h
  rw [canonQ_eq]
  split at h
  · rename_i e
    rw [e]; exact ⟨t, hr, h⟩
  · rename_i tm' H' e
    rw [e]
    rw [fL_eq, fH_eq] at h
    refine ⟨_, ?_, h⟩
    have := RR.ofFull tm'
    rwa [canonQ_length e, hr.len] at this
theorem canon_none (tm : List V) : canon 0 tm [] = (tm, []) := by
  unfold canon
  have e : List.range 0 = [] := rfl
  simp only [e, List.nil_append]
  cases h : refsL tm with
  | nil => rfl
  | cons a b =>
    have : reach [] (a :: b) = none := by
      show reachGo [] (9999 + 1) (a :: b) [] = none
      unfold reachGo
      rfl
    rw [this]
noncomputable def headF (f : FuncId) (pins N : Nat) (body : Code) (t : RT) (H : Heap) (k : RT → Heap → Option (V × Heap)) : Option (V × Heap) :=
  clearK N (clears (X.keepSlots f) body) t fun t => match pins, H with
    | 0, [] => k t []
    | pins, H => canonK pins N t H k
theorem headF_ok {f pins N body t H k r} {tm : List V} (hr : RR N t tm) (h : headF X f pins N body t H k = some r) : ∃ t', RR N t' (head X f pins body ⟨tm, H⟩).tm ∧ k t' (head X f pins body ⟨tm, H⟩).H = some r := by
  unfold headF at h
  obtain ⟨t1, r1, h1⟩ := clearK_ok hr h
  unfold head
  split at h1
  · rw [canon_none]; exact ⟨t1, r1, h1⟩
  · exact canonK_ok r1 h1
noncomputable def resultsF (fn : Func) (t : RT) (H : Heap) : Option V := do
  let vs ← fn.results.toList.mapM fun
    | .tmp i => some (t.get (pathOf i))
    | .cell a ty => do
      let (cs, _) ← cellsAt H (t.get (pathOf a))
      takeV (← aggT X ty) (← size X ty) cs
  match vs with
  | [v] => some v
  | vs => some (.tuple vs)
theorem resultsF_eq {fn N t H} {tm : List V} (hr : RR N t tm) : resultsF X fn t H = resultsV X fn tm H := by
  unfold resultsF resultsV
  simp only [hr.get]
  rfl
noncomputable def canonF (pins : Nat) (v : V) (H : Heap) : V × Heap :=
  match reachF H (List.range pins ++ refsLF [v]) with
  | none => (v, H)
  | some l0 => fNats (List.range pins ++ l0.filter (fun b => decide (pins ≤ b))) fun l =>
    if H.length = l.length && l == List.range l.length then (v, H)
    else (renVF (indexOf · l 0) v, subHeapF H l)
theorem canonF_eq (pins : Nat) (v : V) (H : Heap) : canon pins [v] H = ([(canonF pins v H).1], (canonF pins v H).2) := by
  unfold canon canonF
  simp only [reachF_eq, refsLF_eq, fNats_eq, renVF_eq, subHeapF_eq]
  cases reach H (List.range pins ++ refsL [v]) with
  | none => rfl
  | some l0 =>
    simp only
    split
    · rfl
    · simp only [renL]
noncomputable def leaveG (f : FuncId) (pins : Nat) (r : V) (H : Heap) : V × Heap :=
  match (if X.keepRes f then (r, []) else match mslsLF [r] with | [] => (r, []) | _ => resolve H 6 r) with
  | (r, frz) => canonF pins r (freezeRows H frz)
theorem leaveG_eq (f : FuncId) (pins : Nat) (r : V) (H : Heap) : leaveG X f pins r H = leave X f pins r H := by
  unfold leaveG leave
  have e : (if X.keepRes f then (r, []) else match mslsLF [r] with | [] => (r, []) | _ => resolve H 6 r) = (if X.keepRes f then (r, []) else resolve H 6 r) := by
    split
    · rfl
    · rw [mslsLF_eq]
      split
      · rename_i h
        show _ = (match r.msls with | [] => _ | l => _)
        have h : r.msls = [] := by simpa [mslsL] using h
        rw [h]
      · rfl
  rw [e]
  generalize (if X.keepRes f = true then (r, []) else resolve H 6 r) = rf
  obtain ⟨v, frz⟩ := rf
  simp only [canonF_eq]
noncomputable def leaveF (f : FuncId) (pins : Nat) (r : V) (H : Heap) : Option (V × Heap) :=
  match both (Nat.beq pins 0) (plainR r) with
  | true => some (r, [])
  | false => some (leaveG X f pins r H)
theorem leaveF_eq {f pins r H} : leaveF X f pins r H = some (leave X f pins r H) := by
  unfold leaveF
  split
  · rename_i h
    obtain ⟨h1, h2⟩ := both_true h
    have h1 : pins = 0 := by simpa using h1
    subst h1
    obtain ⟨k1, k2, k3⟩ := plain_ok r h2
    have e1 : (if X.keepRes f then (r, []) else resolve H 6 r) = (r, []) := by
      split
      · rfl
      · show (match r.msls with | [] => _ | l => _) = _
        rw [k2]
    unfold leave
    rw [e1]
    simp only [freezeRows, List.foldl_nil]
    unfold canon
    have e : List.range 0 = [] := rfl
    simp only [e, refsL, k1, List.append_nil, reach_nil, List.filter_nil, renL, k3, subHeap, List.map_nil]
    cases H with
    | nil => simp
    | cons a b => simp
  · rw [leaveG_eq]
noncomputable def finK (f : FuncId) (fn : Func) (pins : Nat) (ex : Ex) (t : RT) (H : Heap) : Option (V × Heap) :=
  match ex with
  | .normal => match resultsF X fn t H with
    | some r => leaveF X f pins r H
    | none => none
  | .ret => match resultsF X fn t H with
    | some r => leaveF X f pins r H
    | none => none
  | _ => none
noncomputable def callWF (ev : EvT) (f : FuncId) (args : List V) (H : Heap) : Option (V × Heap) :=
  if f = yieldId then none else
  match X.spec f with
  | some F => F args H
  | none => match X.P.funcs[f]? with
    | none => none
    | some fn => match fn.body with
      | none => none
      | some c => match Nat.ble args.length fn.ntmps with
        | true => ev f fn.ntmps H.length c (ofArgs args 0 .nil) H (finK X f fn H.length)
        | false => none
noncomputable def codeS (n : Nat) (ev : EvT) : EvT := fun f N pins c t H k =>
  match c with
  | .skip => k .normal t H
  | .label _ => k .normal t H
  | .region _ ops draw => regionF X (callWF X ev) ops draw N t H fun t H => k .normal t H
  | .seq a b => ev f N pins a t H fun ex t H => match ex with
    | .normal => ev f N pins b t H k
    | ex => k ex t H
  | .cond c a b => match opdF X t c with
    | .bool true => ev f N pins a t H k
    | .bool false => ev f N pins b t H k
    | _ => none
  | .block id c => ev f N pins c t H fun ex t H => match ex with
    | .exit id' => if id' = id then k .normal t H else k (.exit id') t H
    | ex => k ex t H
  | .loop c => headF X f pins N c t H fun t H => ev f N pins c t H fun ex t H => match ex with
    | .normal => ev f N pins (.loop c) t H k
    | ex => k ex t H
  | .exit id => k (.exit id) t H
  | .goto l => k (.goto l) t H
  | .ret => k .ret t H
  | c => match evCode X (n + 1) f pins c ⟨tmsOf t N, H⟩ with
    | some (ex, ⟨tm, H⟩) => if tm.length = N then fL tm fun tm => fH H fun H => k ex (ofArgs tm 0 .nil) H else none
    | none => none
noncomputable def codeF (n : Nat) : EvT := Nat.rec (motive := fun _ => EvT) (fun _ _ _ _ _ _ _ => none) (fun n ih => codeS X n ih) n
def EvOK (n : Nat) (ev : EvT) : Prop := ∀ f N pins c t H (k : KF) r tm, RR N t tm → ev f N pins c t H k = some r → ∃ ex tm' H' t', evCode X n f pins c ⟨tm, H⟩ = some (ex, ⟨tm', H'⟩) ∧ RR N t' tm' ∧ k ex t' H' = some r
variable {X}
theorem callWF_ok {n ev} (h : EvOK X n ev) : CallLe (callWF X ev) (callWith X (evCode X n)) := by
  intro f args H r hr
  unfold callWF at hr
  unfold callWith
  split at hr
  · cases hr
  · rename_i hy
    rw [if_neg hy]
    cases hs : X.spec f with
    | some F => rw [hs] at hr; exact hr
    | none =>
      rw [hs] at hr
      simp only at hr ⊢
      cases hf : X.P.funcs[f]? with
      | none => rw [hf] at hr; cases hr
      | some fn =>
        rw [hf] at hr
        simp only at hr ⊢
        cases hb : fn.body with
        | none => rw [hb] at hr; cases hr
        | some c =>
          rw [hb] at hr
          simp only at hr ⊢
          split at hr
          · rename_i hl
            obtain ⟨ex, tm', H', t', e1, r1, k1⟩ := h _ _ _ _ _ _ _ _ _ (RR.ofArgs (by simpa using hl)) hr
            rw [e1]
            unfold finK at k1
            rw [resultsF_eq X r1] at k1
            cases ex <;> simp only at k1 ⊢
            · cases hv : resultsV X fn tm' H' with
              | none => rw [hv] at k1; cases k1
              | some v => rw [hv] at k1; simp only [leaveF_eq] at k1 ⊢; exact k1
            · cases k1
            · cases k1
            · cases hv : resultsV X fn tm' H' with
              | none => rw [hv] at k1; cases k1
              | some v => rw [hv] at k1; simp only [leaveF_eq] at k1 ⊢; exact k1
          · cases hr
theorem slow_ok {n f N pins c t H} {k : KF} {r tm} (hr : RR N t tm)
    (h : (match evCode X (n + 1) f pins c ⟨tmsOf t N, H⟩ with
      | some (ex, ⟨tm, H⟩) => if tm.length = N then fL tm fun tm => fH H fun H => k ex (ofArgs tm 0 .nil) H else none
      | none => none) = some r) : ∃ ex tm' H' t', evCode X (n + 1) f pins c ⟨tm, H⟩ = some (ex, ⟨tm', H'⟩) ∧ RR N t' tm' ∧ k ex t' H' = some r := by
  rw [hr.tms] at h
  split at h
  · rename_i ex tm' H' e
    split at h
    · rename_i hl
      rw [fL_eq, fH_eq] at h
      refine ⟨ex, tm', H', _, e, ?_, h⟩
      have := RR.ofFull tm'
      rwa [hl] at this
    · cases h
  · cases h
theorem codeF_ok : ∀ n, EvOK X n (codeF X n)
  | 0 => fun f N pins c t H k r tm hr h => by cases h
  | n + 1 => fun f N pins c t H k r tm hr h => by
    have ih := codeF_ok n
    have h : codeS X n (codeF X n) f N pins c t H k = some r := h
    cases c with
    | skip => exact ⟨_, _, _, t, rfl, hr, h⟩
    | label l => exact ⟨_, _, _, t, rfl, hr, h⟩
    | region i ops draw =>
      obtain ⟨tm', H', t', e, r', k'⟩ := regionF_ok X (callWF_ok ih) hr h
      refine ⟨_, tm', H', t', ?_, r', k'⟩
      show (evRegion X (callWith X (evCode X n)) ops draw ⟨tm, H⟩).map (fun st => (Ex.normal, st)) = _
      rw [e]; rfl
    | seq a b =>
      obtain ⟨ex, tm1, H1, t1, e1, r1, k1⟩ := ih _ _ _ _ _ _ _ _ _ hr h
      cases ex with
      | normal =>
        obtain ⟨ex, tm2, H2, t2, e2, r2, k2⟩ := ih _ _ _ _ _ _ _ _ _ r1 k1
        refine ⟨ex, tm2, H2, t2, ?_, r2, k2⟩
        rw [evCode_seq, e1]; exact e2
      | exit i => exact ⟨_, tm1, H1, t1, by rw [evCode_seq, e1], r1, k1⟩
      | goto i => exact ⟨_, tm1, H1, t1, by rw [evCode_seq, e1], r1, k1⟩
      | ret => exact ⟨_, tm1, H1, t1, by rw [evCode_seq, e1], r1, k1⟩
    | cond c a b =>
      have h' : (match opdF X t c with
        | .bool true => codeF X n f N pins a t H k
        | .bool false => codeF X n f N pins b t H k
        | _ => none) = some r := h
      rw [opdF_eq X hr] at h'
      split at h'
      · rename_i hc
        obtain ⟨ex, tm1, H1, t1, e1, r1, k1⟩ := ih _ _ _ _ _ _ _ _ _ hr h'
        exact ⟨ex, tm1, H1, t1, by rw [evCode_cond]; simp only [hc]; exact e1, r1, k1⟩
      · rename_i hc
        obtain ⟨ex, tm1, H1, t1, e1, r1, k1⟩ := ih _ _ _ _ _ _ _ _ _ hr h'
        exact ⟨ex, tm1, H1, t1, by rw [evCode_cond]; simp only [hc]; exact e1, r1, k1⟩
      · cases h'
    | block id c =>
      obtain ⟨ex, tm1, H1, t1, e1, r1, k1⟩ := ih _ _ _ _ _ _ _ _ _ hr h
      cases ex with
      | normal => exact ⟨_, tm1, H1, t1, by rw [evCode_block, e1], r1, k1⟩
      | exit i =>
        simp only at k1
        split at k1
        · rename_i hi
          exact ⟨_, tm1, H1, t1, by rw [evCode_block, e1]; simp only; rw [if_pos hi], r1, k1⟩
        · rename_i hi
          exact ⟨_, tm1, H1, t1, by rw [evCode_block, e1]; simp only; rw [if_neg hi], r1, k1⟩
      | goto i => exact ⟨_, tm1, H1, t1, by rw [evCode_block, e1], r1, k1⟩
      | ret => exact ⟨_, tm1, H1, t1, by rw [evCode_block, e1], r1, k1⟩
    | loop c =>
      have h' : headF X f pins N c t H (fun t H => codeF X n f N pins c t H fun ex t H => match ex with
        | .normal => codeF X n f N pins (.loop c) t H k
        | ex => k ex t H) = some r := h
      obtain ⟨t0, r0, k0⟩ := headF_ok X hr h'
      obtain ⟨ex, tm1, H1, t1, e1, r1, k1⟩ := ih _ _ _ _ _ _ _ _ _ r0 k0
      have e1' : evCode X n f pins c (head X f pins c ⟨tm, H⟩) = some (ex, ⟨tm1, H1⟩) := e1
      cases ex with
      | normal =>
        obtain ⟨ex, tm2, H2, t2, e2, r2, k2⟩ := ih _ _ _ _ _ _ _ _ _ r1 k1
        refine ⟨ex, tm2, H2, t2, ?_, r2, k2⟩
        rw [evCode_loop, e1']; exact e2
      | exit i => exact ⟨_, tm1, H1, t1, by rw [evCode_loop, e1'], r1, k1⟩
      | goto i => exact ⟨_, tm1, H1, t1, by rw [evCode_loop, e1'], r1, k1⟩
      | ret => exact ⟨_, tm1, H1, t1, by rw [evCode_loop, e1'], r1, k1⟩
    | exit i => exact ⟨_, _, _, t, rfl, hr, h⟩
    | goto i => exact ⟨_, _, _, t, rfl, hr, h⟩
    | ret => exact ⟨_, _, _, t, rfl, hr, h⟩
    | scope c => exact slow_ok hr h
    | rangeFunc a b c d => exact slow_ok hr h
    | refuse w => exact slow_ok hr h
/-- A call, walked so. -/
noncomputable def callF (X : Ctx) (n : Nat) : CallFn := callWF X (codeF X n)
theorem callF_ok {n f args H r} (h : callF X n f args H = some r) : evCall X n f args H = some r := callWF_ok (codeF_ok n) _ _ _ _ h
end
/-- Functions whose calls are remembered, and walked so. -/
noncomputable def Ctx.memoW (X : Ctx) (l : List FuncId) (n : Nat) : Ctx :=
  Ctx.mk X.P X.glob (fun g => if l.contains g then some (memoF (callF X n g)) else X.spec g) X.ext X.mutArgs X.keepRes X.keepSlots X.typed
theorem Good.memoW {X : Ctx} (h : Good X) {l : List FuncId} {n : Nat} (hl : (l.all fun f => f != yieldId) = true) : Good (X.memoW l n) := by
  refine ⟨h.mixed, h.names, fun W => ⟨(h.ctx W).glob, (h.ctx W).ext⟩, fun W g G hG args H r H' hr => ?_⟩
  have hG' : (if l.contains g then some (memoF (callF X n g)) else X.spec g) = some G := hG
  split at hG'
  · rename_i e
    cases hG'
    rw [memoF_eq] at hr
    have := List.all_eq_true.1 hl g (by simpa using e)
    exact h.calls (callF_ok hr) W (by simpa using this)
  · exact h.hooks W g G hG' args H r H' hr
end Go.Ev
