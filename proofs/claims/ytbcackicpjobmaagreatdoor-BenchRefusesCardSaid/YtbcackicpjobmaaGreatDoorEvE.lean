/- A part of the proof of BenchRefuses: no statement of the seat's stands here. -/
import Derived.Test.YtbcackicpjobmaaGreatDoorEvD
set_option linter.unusedSectionVars false
set_option linter.unusedSimpArgs false
set_option linter.unusedVariables false
set_option linter.all false
/- Slices, addresses, fields, indices. -/
set_option linter.unusedSectionVars false
set_option linter.unusedSimpArgs false
set_option linter.unusedVariables false
namespace Go.Ev
open Go
section
variable {X : Ctx} {B : Mem} {w : World} {M : Mem} {ρ : Rho} {H : Heap} {tm : List V} {a : Act} {o : Oper} {r : Res}

theorem asI_rel {v : V} {n : Int} (h : asI v = some n) {c : Value} (hc : VRel M ρ v c) : ∃ k, c = .int k n := by
  unfold asI at h
  split at h
  · cases h; unfold VRel at hc; exact ⟨_, hc⟩
  · cases h
theorem asIntOf_run {k : IntKind} {n : Int} (P : Program) (w : World) : (asIntOf (.int k n)).run P w = .ok (k, n) w := rfl

/-- A bound, where it is told. -/
theorem bound_run {d : Nat} {v : Option V} {n : Nat} (h : asN d v = some n) {c : Option Value} (hc : ∀ x, v = some x → ∃ y, c = some y ∧ VRel M ρ x y) (hn : v = none → c = none) (y : Nat) (hle : n ≤ y) (code : BoundsCode) (P : Program) (w : World) :
    (c = none ∧ n = d) ∨ ∃ x, c = some x ∧ (Instr.sliceBound x y code).run P w = .ok n w := by
  unfold asN at h
  split at h
  · cases h; exact .inl ⟨hn rfl, rfl⟩
  · rename_i k m
    split at h
    · rename_i h0
      cases h
      obtain ⟨x, hx, hr⟩ := hc _ rfl
      unfold VRel at hr
      subst hr
      refine .inr ⟨_, hx, ?_⟩
      have : 0 ≤ m ∧ m ≤ (y : Int) := ⟨h0, by omega⟩
      simp only [Instr.sliceBound, Sem.run_bind, asIntOf_run, Result.andThen_ok, this, and_self, if_true, Sem.run_pure]
    · cases h
  · cases h

/-- The three bounds. -/
theorem bounds_run {isSlice : Bool} {len cap l hh : Nat} {lo hi : Option V} (hl : asN 0 lo = some l) (hh' : asN len hi = some hh) (h1 : l ≤ hh) (h2 : hh ≤ cap) (h3 : hi = none → len ≤ cap)
    {clo chi : Option Value} (hlo : ∀ x, lo = some x → ∃ y, clo = some y ∧ VRel M ρ x y) (nlo : lo = none → clo = none) (hhi : ∀ x, hi = some x → ∃ y, chi = some y ∧ VRel M ρ x y) (nhi : hi = none → chi = none) (P : Program) (w : World) :
    (Instr.sliceBounds isSlice len cap clo chi none).run P w = .ok (l, hh, cap) w := by
  unfold Instr.sliceBounds
  rcases bound_run hh' hhi nhi cap h2 (if isSlice then .sliceAcap else .sliceAlen) P w with ⟨e1, e2⟩ | ⟨x, e1, e2⟩
  · subst e1; subst e2
    rcases bound_run hl hlo nlo hh h1 (BoundsCode.sliceB) P w with ⟨e3, e4⟩ | ⟨y, e3, e4⟩
    · subst e3; subst e4; rfl
    · subst e3; simp [e4]
  · subst e1
    rcases bound_run hl hlo nlo hh h1 (BoundsCode.sliceB) P w with ⟨e3, e4⟩ | ⟨y, e3, e4⟩
    · subst e3; subst e4; simp [e2]
    · subst e3; simp [e2, e4]
theorem bounds3_run {isSlice : Bool} {len cap l hh m : Nat} {lo hi mx : Option V} (hl : asN 0 lo = some l) (hh' : asN len hi = some hh) (hm : asN cap mx = some m) (h1 : l ≤ hh) (h2 : hh ≤ m) (h4 : m ≤ cap) (hhi0 : hi ≠ none) (hmx0 : mx ≠ none)
    {clo chi cmx : Option Value} (hlo : ∀ x, lo = some x → ∃ y, clo = some y ∧ VRel M ρ x y) (nlo : lo = none → clo = none) (hhi : ∀ x, hi = some x → ∃ y, chi = some y ∧ VRel M ρ x y)
    (hmx : ∀ x, mx = some x → ∃ y, cmx = some y ∧ VRel M ρ x y) (P : Program) (w : World) :
    (Instr.sliceBounds isSlice len cap clo chi cmx).run P w = .ok (l, hh, m) w := by
  unfold Instr.sliceBounds
  rcases bound_run hm hmx (fun e => absurd e hmx0) cap h4 (if isSlice then .slice3Acap else .slice3Alen) P w with ⟨e1, _⟩ | ⟨z, e1, e2⟩
  · obtain ⟨x, hx⟩ := Option.ne_none_iff_exists'.1 hmx0
    obtain ⟨y, hy, _⟩ := hmx x hx
    rw [e1] at hy; cases hy
  · subst e1
    rcases bound_run hh' hhi (fun e => absurd e hhi0) m h2 .slice3B P w with ⟨e1, _⟩ | ⟨x, e1, e3⟩
    · obtain ⟨x, hx⟩ := Option.ne_none_iff_exists'.1 hhi0
      obtain ⟨y, hy, _⟩ := hhi x hx
      rw [e1] at hy; cases hy
    · subst e1
      rcases bound_run hl hlo nlo hh h1 (BoundsCode.slice3C) P w with ⟨e4, e5⟩ | ⟨y, e4, e5⟩
      · subst e4; subst e5; simp [e2, e3]
      · subst e4; simp [e2, e3, e5]

theorem opd_opt (hX : CtxOK X B) (h : HRel B w M ρ H) (ht : LRel M ρ tm a.tmps.toList) (x : Option Operand) :
    (∀ v, x.map (opd X tm) = some v → ∃ y, x.map a.eval = some y ∧ VRel M ρ v y) ∧ (x.map (opd X tm) = none → x.map a.eval = none) := by
  cases x with
  | none => exact ⟨(by intro v hv; cases hv), fun _ => rfl⟩
  | some x => exact ⟨(by intro v hv; cases hv; exact ⟨_, rfl, opd_rel hX h ht x⟩), (by intro e; cases e)⟩

theorem asN_some {d d' : Nat} {v : V} {n : Nat} (h : asN d (some v) = some n) : asN d' (some v) = some n := by
  unfold asN at *
  cases v <;> exact h

theorem bytes_extract (b : ByteArray) (l n : Nat) : (b.extract l n).data.toList = (b.data.toList.drop l).take (n - l) := by
  simp

theorem partV_run {t : TypeId} {off : Nat} {cells : List V} {cs : Array Value} {v : V} (hv : partV X t cells off = some v) (hc : LRel M ρ cells cs.toList) (w : World) : ∃ c, (part t cs off).run X.P w = .ok c w ∧ VRel M ρ v c := by
  unfold partV at hv
  cases ha : aggT X t with
  | none => simp [ha] at hv
  | some ag =>
    cases hn : size X t with
    | none => simp [ha, hn] at hv
    | some n =>
      simp only [ha, hn, Option.bind_eq_bind, Option.bind_some] at hv
      unfold takeV at hv
      cases ag with
      | true =>
        simp only [if_true] at hv
        split at hv
        · cases hv
          refine ⟨.agg (cs.extract off (off + n)), by simp [part, run_agg ha, run_size hn], ?_⟩
          unfold VRel
          refine ⟨_, rfl, ?_⟩
          have : (cs.extract off (off + n)).toList = (cs.toList.drop off).take n := by simp
          rw [this]
          exact (hc.drop off).take n
        · cases hv
      | false =>
        simp only [Bool.false_eq_true, if_false] at hv
        split at hv
        · rename_i c r hd
          cases hv
          have : cells[off]? = some v := by
            have h0 : (cells.drop off)[0]? = some v := by rw [hd]; rfl
            rw [List.getElem?_drop] at h0; exact h0
          obtain ⟨x, hx, hr⟩ := hc.get this
          have hx' : cs[off]? = some x := by simpa using hx
          exact ⟨x, by simp [part, run_agg ha, hx'], hr⟩
        · cases hv

variable (hX : CtxOK X B) (h : HRel B w M ρ H) (ht : LRel M ρ tm a.tmps.toList)
include hX h ht

theorem op_fieldAddr {t : TypeId} {x : Operand} {f : Nat} (ho : o.op = .fieldAddr t x f) (hr : fieldAddrV X t (opd X tm x) f = some r) : r.wr = [] ∧ StepTo X.P o a w (OpPost B w M ρ H r.v H) := by
  unfold fieldAddrV fieldOf at hr
  cases hu : und X t with
  | none => simp [hu] at hr
  | some d =>
    cases d with
    | struct fs =>
      simp only [hu, Option.bind_eq_bind, Option.bind_some] at hr
      cases hf : fs[f]? with
      | none => rw [hf] at hr; simp at hr
      | some fd =>
        rw [hf] at hr
        simp only [Option.bind_some] at hr
        cases hn : size X fd.type with
        | none => rw [hn] at hr; simp at hr
        | some n =>
          rw [hn] at hr
          simp only [Option.bind_some] at hr
          split at hr
          · cases hr
          · rename_i hn0
            have hrun : ∀ ad : Addr, a.eval x = .pointer (some ad) → (Instr.fieldAt t (a.eval x) f).run X.P w = .ok (.pointer (some (ad.add fd.offset))) w := by
              intro ad had
              have hp : (fieldPlace ad fd).run X.P w = .ok (ad.add fd.offset) w := by
                simp only [fieldPlace, Sem.run_bind, run_size hn, Result.andThen_ok, hn0, if_false, Sem.run_pure]
              simp only [Instr.fieldAt, Sem.run_bind, run_und hu, Result.andThen_ok, hf, had, Instr.sureAddr, Sem.run_pure, hp]
            have hv := opd_rel hX h ht x
            split at hr
            · rename_i b ver off hx
              cases hr
              rw [hx] at hv
              unfold VRel at hv
              obtain ⟨p, ad, hb, hve, had, hp⟩ := hv
              refine ⟨rfl, StepTo.val (by simp only [execOp, ho]) (hrun ad had) (OpPost.same h (by
                unfold VRel
                refine ⟨p, _, hb, hve, rfl, fun e => ?_⟩
                rw [hp e, add_none _ _ rfl, Nat.add_assoc]))⟩
            · rename_i cs hx
              cases hr
              rw [hx] at hv
              unfold VRel at hv
              obtain ⟨ad, had, hsp, hc⟩ := hv
              refine ⟨rfl, StepTo.val (by simp only [execOp, ho]) (hrun ad had) (OpPost.same h (by
                unfold VRel
                rw [add_none _ _ hsp]
                exact ⟨_, rfl, rfl, hc.drop _⟩))⟩
            · rename_i tt nn b hx
              rw [hx] at hv
              unfold VRel at hv
              obtain ⟨p, ad, hb, had, hp⟩ := hv
              split at hr
              · rename_i h0
                cases hr
                refine ⟨rfl, StepTo.val (by simp only [execOp, ho]) (hrun ad had) (OpPost.same h (by
                  unfold VRel
                  refine ⟨p, _, hb, rfl, fun e => ⟨?_, (hp e).2⟩⟩
                  rw [(hp e).1, add_none _ _ rfl, h0]; rfl))⟩
              · cases hr
                refine ⟨rfl, StepTo.val (by simp only [execOp, ho]) (hrun ad had) (OpPost.same h (by
                  unfold VRel
                  refine ⟨p, _, hb, Nat.zero_le _, rfl, fun e => ?_⟩
                  rw [(hp e).1, add_none _ _ rfl]))⟩
            · cases hr
    | _ => simp [hu] at hr

theorem op_indexAddr {t : TypeId} {x ix : Operand} (ho : o.op = .indexAddr t x ix) (hr : indexAddrV X t (opd X tm x) (opd X tm ix) H = some r) : r.wr = [] ∧ StepTo X.P o a w (OpPost B w M ρ H r.v H) := by
  have he : execOp a.eval o = (do pure (.value (← Instr.indexAt t (a.eval x) (a.eval ix)))) := by simp only [execOp, ho]
  unfold indexAddrV at hr
  cases hi : asI (opd X tm ix) with
  | none => rw [hi] at hr; cases hr
  | some i =>
    rw [hi] at hr
    obtain ⟨k, hk⟩ := asI_rel hi (opd_rel hX h ht ix)
    have hv := opd_rel hX h ht x
    simp only [Option.bind_eq_bind, Option.bind_some] at hr
    cases hu : und X t with
    | none => simp [hu] at hr
    | some d =>
      simp only [hu, Option.bind_some] at hr
      split at hr
      · rename_i n e
        cases hn : size X e with
        | none => simp [hn] at hr
        | some sz =>
          simp only [hn, Option.bind_some] at hr
          split at hr
          · rename_i hc
            try simp only [Bool.and_eq_true, decide_eq_true_eq] at hc
            have hrun : ∀ ad : Addr, a.eval x = .pointer (some ad) → (Instr.indexAt t (a.eval x) (a.eval ix)).run X.P w = .ok (.pointer (some (ad.add (i.toNat * sz)))) w := by
              intro ad had
              simp only [Instr.indexAt, Sem.run_bind, hk, asIntOf_run, Result.andThen_ok, run_und hu, had, Instr.sureAddr, Sem.run_pure, hc, and_self, if_true, run_size hn]
            split at hr
            · rename_i b ver off hx
              cases hr
              rw [hx] at hv
              unfold VRel at hv
              obtain ⟨p, ad, hb, hve, had, hp⟩ := hv
              refine ⟨rfl, StepTo.val he (hrun ad had) (OpPost.same h (by
                unfold VRel
                refine ⟨p, _, hb, hve, rfl, fun e => ?_⟩
                rw [hp e, add_none _ _ rfl, Nat.add_assoc]))⟩
            · rename_i cs hx
              cases hr
              rw [hx] at hv
              unfold VRel at hv
              obtain ⟨ad, had, hsp, hcr⟩ := hv
              refine ⟨rfl, StepTo.val he (hrun ad had) (OpPost.same h (by
                unfold VRel
                rw [add_none _ _ hsp]
                exact ⟨_, rfl, rfl, hcr.drop _⟩))⟩
            · cases hr
          · cases hr
      · rename_i e sz len cs hx
        rw [hx] at hv
        unfold VRel at hv
        obtain ⟨ad, cap, had, hl, hlen, h1, hcr⟩ := hv
        cases hn : size X e with
        | none => simp [hn] at hr
        | some sz' =>
          simp only [hn, Option.bind_some, Bool.and_eq_true, decide_eq_true_eq, beq_iff_eq] at hr
          split at hr
          · rename_i hc
            obtain ⟨⟨⟨h0, hlt⟩, rfl⟩, _⟩ := hc
            cases hr
            rcases hcr with h00 | ⟨hsp, hcr⟩
            · omega
            · refine ⟨rfl, StepTo.val (c := .pointer (some (ad.add (i.toNat * sz')))) (w' := w) he ?_ (OpPost.same h (by
                unfold VRel
                rw [add_none _ _ hsp]
                exact ⟨_, rfl, rfl, hcr.drop _⟩))⟩
              simp only [Instr.indexAt, Sem.run_bind, hk, asIntOf_run, Result.andThen_ok, run_und hu, had, Sem.run_pure, h0, hlt, and_self, if_true, run_size hn]
          · cases hr
      · rename_i e b ver off sz len hx
        rw [hx] at hv
        unfold VRel at hv
        obtain ⟨p, ad, cap, hb, hve, h1, had, hl, hp⟩ := hv
        cases hro : rowOf H b ver with
        | none => simp [hro] at hr
        | some y =>
          obtain ⟨row, mu⟩ := y
          cases hn : size X e with
          | none => simp [hro, hn] at hr
          | some sz' =>
            simp only [hro, hn, Option.bind_some, Bool.and_eq_true, decide_eq_true_eq, beq_iff_eq] at hr
            split at hr
            · rename_i hc
              obtain ⟨⟨⟨h0, hlt⟩, rfl⟩, _⟩ := hc
              cases hr
              refine ⟨rfl, StepTo.val (c := .pointer (some (ad.add (i.toNat * sz')))) (w' := w) he ?_ (OpPost.same h (by
                unfold VRel
                refine ⟨p, _, hb, hve, rfl, fun e => ?_⟩
                obtain ⟨ha, _⟩ := hp e
                rcases ha with hc0 | ha
                · omega
                · rw [ha, add_none _ _ rfl, Nat.add_assoc]))⟩
              simp only [Instr.indexAt, Sem.run_bind, hk, asIntOf_run, Result.andThen_ok, run_und hu, had, Sem.run_pure, h0, hlt, and_self, if_true, run_size hn]
            · cases hr
      · cases hr

theorem op_field {t : TypeId} {x : Operand} {f : Nat} (ho : o.op = .field t x f) {fs : Array Field} (hu : und X t = some (.struct fs)) {fd : Field} (hf : fs[f]? = some fd) {cs : List V} (hx : opd X tm x = .agg cs)
    {v : V} (hv : partV X fd.type cs fd.offset = some v) : StepTo X.P o a w (OpPost B w M ρ H v H) := by
  have hr := opd_rel hX h ht x
  rw [hx] at hr
  unfold VRel at hr
  obtain ⟨xs, hxs, hrel⟩ := hr
  obtain ⟨c, hc, hcr⟩ := partV_run hv hrel w
  refine StepTo.val (s := Instr.field t (a.eval x) f) (by simp only [execOp, ho]) (c := c) (w' := w) ?_ (OpPost.same h hcr)
  simp only [Instr.field, Sem.run_bind, run_und hu, Result.andThen_ok, hf, hxs, asAgg, Sem.run_pure, hc]

theorem op_index {t : TypeId} {x ix : Operand} (ho : o.op = .index t x ix) {i : Int} (hi : asI (opd X tm ix) = some i) {d : TypeDesc} (hu : und X t = some d) :
    (∀ n e cs sz v, d = .array n e → opd X tm x = .agg cs → 0 ≤ i → i < n → size X e = some sz → partV X e cs (i.toNat * sz) = some v → StepTo X.P o a w (OpPost B w M ρ H v H)) ∧
    (∀ s b, d = .string → opd X tm x = .str s → 0 ≤ i → s[i.toNat]? = some b → StepTo X.P o a w (OpPost B w M ρ H (.int .u8 b.toNat) H)) := by
  obtain ⟨k, hk⟩ := asI_rel hi (opd_rel hX h ht ix)
  have hr := opd_rel hX h ht x
  refine ⟨fun n e cs sz v hd hx h0 hlt hn hv => ?_, fun s b hd hx h0 hb => ?_⟩
  · subst hd
    rw [hx] at hr
    unfold VRel at hr
    obtain ⟨xs, hxs, hrel⟩ := hr
    obtain ⟨c, hc, hcr⟩ := partV_run hv hrel w
    refine StepTo.val (s := Instr.index t (a.eval x) (a.eval ix)) (by simp only [execOp, ho]) (c := c) (w' := w) ?_ (OpPost.same h hcr)
    simp only [Instr.index, Sem.run_bind, hk, asIntOf_run, Result.andThen_ok, run_und hu, hxs, h0, hlt, and_self, if_true, run_size hn, hc]
  · subst hd
    rw [hx] at hr
    unfold VRel at hr
    obtain ⟨bs, hbs, hrel⟩ := hr
    have hget : bs[i.toNat]? = some b := by
      rw [← hrel] at hb
      have : i.toNat < bs.size := by
        rcases Nat.lt_or_ge i.toNat bs.data.toList.length with h1 | h1
        · simpa using h1
        · rw [List.getElem?_eq_none h1] at hb; cases hb
      rw [getElem?_pos bs _ this]
      have e : bs.data.toList[i.toNat]? = bs.data[i.toNat]? := by simp
      rw [e, Array.getElem?_eq_getElem (by exact this)] at hb
      exact hb
    refine StepTo.val (s := Instr.index t (a.eval x) (a.eval ix)) (by simp only [execOp, ho]) (c := .int .u8 b.toNat) (w' := w) ?_ (OpPost.same h (by unfold VRel; rfl))
    simp only [Instr.index, Sem.run_bind, hk, asIntOf_run, Result.andThen_ok, run_und hu, hbs, h0, if_true, hget, Sem.run_pure]

theorem op_slice {t : TypeId} {x : Operand} {lo hi mx : Option Operand} (ho : o.op = .slice t x lo hi mx) (hr : sliceV X t (opd X tm x) (lo.map (opd X tm)) (hi.map (opd X tm)) (mx.map (opd X tm)) H = some r) :
    r.wr = [] ∧ StepTo X.P o a w (OpPost B w M ρ H r.v H) := by
  have hv := opd_rel hX h ht x
  obtain ⟨hlo, nlo⟩ := opd_opt hX h ht lo
  obtain ⟨hhi, nhi⟩ := opd_opt hX h ht hi
  obtain ⟨hmx, nmx⟩ := opd_opt hX h ht mx
  have he : execOp a.eval o = (do pure (.value (← Instr.sliceAt t (a.eval x) (lo.map a.eval) (hi.map a.eval) (mx.map a.eval)))) := by simp only [execOp, ho]
  generalize lo.map (opd X tm) = vlo at *
  generalize hi.map (opd X tm) = vhi at *
  generalize mx.map (opd X tm) = vmx at *
  generalize lo.map a.eval = clo at *
  generalize hi.map a.eval = chi at *
  generalize mx.map a.eval = cmx at *
  unfold sliceV at hr
  cases hu : und X t with
  | none => simp [hu] at hr
  | some d =>
    simp only [hu, Option.bind_eq_bind, Option.bind_some] at hr
    split at hr
    · -- a text
      rename_i s hx
      rw [hx] at hv
      unfold VRel at hv
      obtain ⟨bs, hbs, rfl⟩ := hv
      have hsz : bs.data.toList.length = bs.size := by rw [Array.length_toList]; rfl
      rw [hsz] at hr
      cases hh : asN bs.size vhi with
      | none => rw [hh] at hr; cases hr
      | some hh' =>
        cases hl : asN 0 vlo with
        | none => rw [hh, hl] at hr; cases hr
        | some l =>
          simp only [hh, hl, Option.bind_some, Bool.and_eq_true, decide_eq_true_eq] at hr
          split at hr
          · rename_i hc
            obtain ⟨⟨h1, h2⟩, h3⟩ := hc
            cases hr
            have h3' : vmx = none := by cases vmx with | none => rfl | some => cases h3
            have := nmx h3'
            subst this
            have hb := bounds_run (isSlice := false) (cap := bs.size) hl hh h1 h2 (fun _ => Nat.le_refl _) hlo nlo hhi nhi X.P w
            refine ⟨rfl, StepTo.val he (c := .string (bs.extract l hh')) (w' := w) ?_ (OpPost.same h (by unfold VRel; exact ⟨_, rfl, bytes_extract _ _ _⟩))⟩
            simp only [Instr.sliceAt, Sem.run_bind, run_und hu, Result.andThen_ok, Instr.slice, hbs, Option.isSome_none, Bool.false_eq_true, if_false, hb, Sem.run_pure]
          · cases hr
    · -- nil
      rename_i e hx
      rw [hx] at hv
      unfold VRel at hv
      cases hsz : size X e with
      | none => rw [hsz] at hr; cases hr
      | some sz =>
      simp only [hsz, Option.bind_some] at hr
      cases hh : asN 0 vhi with
      | none => rw [hh] at hr; cases hr
      | some hh' =>
        cases hl : asN 0 vlo with
        | none => rw [hh, hl] at hr; cases hr
        | some l =>
          cases hm : asN 0 vmx with
          | none => rw [hh, hl, hm] at hr; cases hr
          | some m =>
            simp only [hh, hl, hm, Option.bind_some, Bool.and_eq_true, decide_eq_true_eq, Bool.or_eq_true] at hr
            split at hr
            · rename_i hc
              obtain ⟨⟨⟨rfl, rfl⟩, rfl⟩, hmi⟩ := hc
              cases hr
              have hb : (Instr.sliceBounds true 0 0 clo chi cmx).run X.P w = .ok (0, 0, 0) w := by
                cases hvm : vmx with
                | none => rw [nmx hvm]; exact bounds_run hl hh (Nat.le_refl _) (Nat.le_refl _) (fun _ => Nat.le_refl _) hlo nlo hhi nhi X.P w
                | some mv =>
                  refine bounds3_run hl hh hm (Nat.le_refl _) (Nat.le_refl _) (Nat.le_refl _) ?_ (by rw [hvm]; simp) hlo nlo hhi hmx X.P w
                  rw [hvm] at hmi
                  rcases hmi with hmi | hmi
                  · cases hmi
                  · intro e0; rw [e0] at hmi; cases hmi
              refine ⟨rfl, StepTo.val he (c := .slice none 0 0) (w' := w) ?_ (OpPost.same h (by unfold VRel; rfl))⟩
              simp only [Instr.sliceAt, Sem.run_bind, run_und hu, Result.andThen_ok, Instr.slice, hv, hb, run_size hsz, Sem.run_pure]
              rfl
            · cases hr
    · -- empty
      rename_i e hx
      rw [hx] at hv
      unfold VRel at hv
      obtain ⟨ad, had⟩ := hv
      cases hsz : size X e with
      | none => rw [hsz] at hr; cases hr
      | some sz =>
      simp only [hsz, Option.bind_some] at hr
      cases hh : asN 0 vhi with
      | none => rw [hh] at hr; cases hr
      | some hh' =>
        cases hl : asN 0 vlo with
        | none => rw [hh, hl] at hr; cases hr
        | some l =>
          cases hm : asN 0 vmx with
          | none => rw [hh, hl, hm] at hr; cases hr
          | some m =>
            simp only [hh, hl, hm, Option.bind_some, Bool.and_eq_true, decide_eq_true_eq, Bool.or_eq_true] at hr
            split at hr
            · rename_i hc
              obtain ⟨⟨⟨rfl, rfl⟩, rfl⟩, hmi⟩ := hc
              cases hr
              have hb : (Instr.sliceBounds true 0 0 clo chi cmx).run X.P w = .ok (0, 0, 0) w := by
                cases hvm : vmx with
                | none => rw [nmx hvm]; exact bounds_run hl hh (Nat.le_refl _) (Nat.le_refl _) (fun _ => Nat.le_refl _) hlo nlo hhi nhi X.P w
                | some mv =>
                  refine bounds3_run hl hh hm (Nat.le_refl _) (Nat.le_refl _) (Nat.le_refl _) ?_ (by rw [hvm]; simp) hlo nlo hhi hmx X.P w
                  rw [hvm] at hmi
                  rcases hmi with hmi | hmi
                  · cases hmi
                  · intro e0; rw [e0] at hmi; cases hmi
              refine ⟨rfl, StepTo.val he (c := .slice (some ad) 0 0) (w' := w) ?_ (OpPost.same h (by unfold VRel; exact ⟨_, rfl⟩))⟩
              simp only [Instr.sliceAt, Sem.run_bind, run_und hu, Result.andThen_ok, Instr.slice, had, hb, run_size hsz, Sem.run_pure]
              rfl
            · cases hr
    · -- a pure slice
      rename_i e sz len cs hx
      rw [hx] at hv
      unfold VRel at hv
      obtain ⟨ad, cap, had, hlc, hlen, h1, hcr⟩ := hv
      cases hh : asN len vhi with
      | none => rw [hh] at hr; cases hr
      | some hh' =>
        cases hl : asN 0 vlo with
        | none => rw [hh, hl] at hr; cases hr
        | some l =>
          cases hn : size X e with
          | none => rw [hh, hl] at hr; simp [hn] at hr
          | some sz' =>
            simp only [hh, hl, hn, Option.bind_some, Bool.and_eq_true, decide_eq_true_eq] at hr
            split at hr
            · rename_i hc
              obtain ⟨rfl, _⟩ := hc
              split at hr
              · split at hr
                · rename_i hc
                  try simp only [Bool.and_eq_true, decide_eq_true_eq] at hc
                  obtain ⟨h2, h3⟩ := hc
                  cases hr
                  have hb := bounds_run (isSlice := true) (cap := cap) hl hh h2 (by omega) (fun _ => hlc) hlo nlo hhi nhi X.P w
                  rw [nmx rfl] at he
                  refine ⟨rfl, StepTo.val he (c := .slice (some (if cap = l then ad else ad.add (l * sz'))) (hh' - l) (cap - l)) (w' := w) ?_ (OpPost.same h ?_)⟩
                  · simp only [Instr.sliceAt, Sem.run_bind, run_und hu, Result.andThen_ok, Instr.slice, had, hb, run_size hn, Sem.run_pure]
                    by_cases hcl : cap = l <;> simp [hcl]
                  · unfold VRel
                    refine ⟨_, _, rfl, by omega, ?_, h1, ?_⟩
                    · rw [List.length_take, List.length_drop, hlen, Nat.sub_mul]
                      have : hh' * sz' ≤ len * sz' := Nat.mul_le_mul_right _ h3
                      omega
                    · by_cases hcl : cap = l
                      · left; omega
                      · rcases hcr with h0 | ⟨hsp, hcr⟩
                        · left; omega
                        · right
                          rw [if_neg hcl, add_none _ _ hsp]
                          exact ⟨rfl, (hcr.drop _).take _⟩
                · cases hr
              · rename_i mv
                cases hm : asN len (some mv) with
                | none => rw [hm] at hr; cases hr
                | some m =>
                  simp only [hm, Option.bind_some, Bool.and_eq_true, decide_eq_true_eq] at hr
                  split at hr
                  · rename_i hc
                    obtain ⟨⟨⟨rfl, rfl⟩, h4⟩, h5⟩ := hc
                    cases hr
                    have hb : (Instr.sliceBounds true len cap clo chi cmx).run X.P w = .ok (l, l, l) w :=
                      bounds3_run (cap := cap) hl hh (asN_some hm) (Nat.le_refl _) (Nat.le_refl _) (by omega) (by intro e0; rw [e0] at h5; cases h5) (by simp) hlo nlo hhi hmx X.P w
                    refine ⟨rfl, StepTo.val he (c := .slice (some ad) 0 0) (w' := w) ?_ (OpPost.same h (by unfold VRel; exact ⟨_, rfl⟩))⟩
                    simp only [Instr.sliceAt, Sem.run_bind, run_und hu, Result.andThen_ok, Instr.slice, had, hb, run_size hn, Sem.run_pure, if_true, Nat.sub_self]
                  · cases hr
            · cases hr
    · -- a slice of a row
      rename_i e b ver off sz len hx
      rw [hx] at hv
      unfold VRel at hv
      obtain ⟨p, ad, cap, hpb, hve, h1, had, hlc, hp⟩ := hv
      cases hh : asN len vhi with
      | none => rw [hh] at hr; cases hr
      | some hh' =>
        cases hl : asN 0 vlo with
        | none => rw [hh, hl] at hr; cases hr
        | some l =>
          cases hro : rowOf H b ver with
          | none => rw [hh, hl] at hr; simp [hro] at hr
          | some y =>
          cases hn : size X e with
          | none => rw [hh, hl] at hr; simp [hn] at hr
          | some sz' =>
            simp only [hh, hl, hn, hro, Option.bind_some, Bool.and_eq_true, decide_eq_true_eq] at hr
            split at hr
            · rename_i hc
              obtain ⟨rfl, _⟩ := hc
              split at hr
              · split at hr
                · rename_i hc
                  try simp only [Bool.and_eq_true, decide_eq_true_eq] at hc
                  obtain ⟨h2, h3⟩ := hc
                  cases hr
                  have hb := bounds_run (isSlice := true) (cap := cap) hl hh h2 (by omega) (fun _ => hlc) hlo nlo hhi nhi X.P w
                  rw [nmx rfl] at he
                  refine ⟨rfl, StepTo.val he (c := .slice (some (if cap = l then ad else ad.add (l * sz'))) (hh' - l) (cap - l)) (w' := w) ?_ (OpPost.same h ?_)⟩
                  · simp only [Instr.sliceAt, Sem.run_bind, run_und hu, Result.andThen_ok, Instr.slice, had, hb, run_size hn, Sem.run_pure]
                    by_cases hcl : cap = l <;> simp [hcl]
                  · unfold VRel
                    refine ⟨p, _, _, hpb, hve, h1, rfl, by omega, fun e0 => ?_⟩
                    obtain ⟨ha, hcap⟩ := hp e0
                    have hmul : off + l * sz' + (cap - l) * sz' = off + cap * sz' := by
                      rw [Nat.sub_mul]
                      have : l * sz' ≤ cap * sz' := Nat.mul_le_mul_right _ (by omega)
                      omega
                    refine ⟨?_, by omega⟩
                    by_cases hcl : cap = l
                    · left; omega
                    · right
                      rcases ha with h0 | ha
                      · omega
                      · rw [if_neg hcl, ha, add_none _ _ rfl, Nat.add_assoc]
                · cases hr
              · rename_i mv
                cases hm : asN len (some mv) with
                | none => rw [hm] at hr; cases hr
                | some m =>
                  simp only [hm, Option.bind_some, Bool.and_eq_true, decide_eq_true_eq] at hr
                  split at hr
                  · rename_i hc
                    obtain ⟨⟨⟨rfl, rfl⟩, h4⟩, h5⟩ := hc
                    cases hr
                    have hb : (Instr.sliceBounds true len cap clo chi cmx).run X.P w = .ok (l, l, l) w :=
                      bounds3_run (cap := cap) hl hh (asN_some hm) (Nat.le_refl _) (Nat.le_refl _) (by omega) (by intro e0; rw [e0] at h5; cases h5) (by simp) hlo nlo hhi hmx X.P w
                    refine ⟨rfl, StepTo.val he (c := .slice (some ad) 0 0) (w' := w) ?_ (OpPost.same h (by unfold VRel; exact ⟨_, rfl⟩))⟩
                    simp only [Instr.sliceAt, Sem.run_bind, run_und hu, Result.andThen_ok, Instr.slice, had, hb, run_size hn, Sem.run_pure, if_true, Nat.sub_self]
                  · cases hr
            · cases hr
    · -- an array
      rename_i n e
      cases hn : size X e with
      | none => rw [hn] at hr; cases hr
      | some sz =>
      cases hh : asN n vhi with
      | none => rw [hn, hh] at hr; cases hr
      | some hh' =>
        cases hl : asN 0 vlo with
        | none => rw [hn, hh, hl] at hr; cases hr
        | some l =>
          simp only [hh, hl, hn, Option.bind_some, Bool.and_eq_true, decide_eq_true_eq] at hr
          split at hr
          · rename_i hc
            obtain ⟨⟨⟨h2, h3⟩, h4⟩, h1⟩ := hc
            have h4' : vmx = none := by cases vmx with | none => rfl | some => cases h4
            rw [nmx h4'] at he
            have hb := bounds_run (isSlice := false) (cap := n) hl hh h2 h3 (fun _ => Nat.le_refl _) hlo nlo hhi nhi X.P w
            have hrun : ∀ ad : Addr, a.eval x = .pointer (some ad) → (Instr.sliceAt t (a.eval x) clo chi none).run X.P w = .ok (.slice (some (if n = l then ad else ad.add (l * sz))) (hh' - l) (n - l)) w := by
              intro ad had
              simp only [Instr.sliceAt, Sem.run_bind, run_und hu, Result.andThen_ok, had, Instr.sureAddr, hb, run_size hn, Sem.run_pure]
            split at hr
            · rename_i b ver off hx
              rw [hx] at hv
              unfold VRel at hv
              obtain ⟨p, ad, hpb, hve, had, hp⟩ := hv
              cases hro : rowOf H b ver with
              | none => rw [hro] at hr; cases hr
              | some y =>
                obtain ⟨row, mu⟩ := y
                simp only [hro, Option.bind_some] at hr
                split at hr
                · rename_i hle
                  cases hr
                  refine ⟨rfl, StepTo.val he (hrun ad had) (OpPost.same h ?_)⟩
                  unfold VRel
                  refine ⟨p, _, _, hpb, hve, h1, rfl, by omega, fun e0 => ?_⟩
                  have ha := hp e0
                  obtain ⟨p', hp', hpv, hbr, _⟩ := row_at h hro
                  rw [hpb] at hp'; cases hp'
                  have hmul : off + l * sz + (n - l) * sz = off + n * sz := by
                    rw [Nat.sub_mul]
                    have : l * sz ≤ n * sz := Nat.mul_le_mul_right _ (by omega)
                    omega
                  refine ⟨?_, ?_⟩
                  · by_cases hcl : n = l
                    · left; omega
                    · right; rw [if_neg hcl, ha, add_none _ _ rfl, Nat.add_assoc]
                  · rw [hmul]
                    exact Nat.le_trans hle (BlkRel.lenCap hbr)
                · cases hr
            · rename_i cs hx
              rw [hx] at hv
              unfold VRel at hv
              obtain ⟨ad, had, hsp, hcr⟩ := hv
              split at hr
              · rename_i hle
                cases hr
                refine ⟨rfl, StepTo.val he (hrun ad had) (OpPost.same h ?_)⟩
                unfold VRel
                refine ⟨_, _, rfl, by omega, ?_, h1, ?_⟩
                · rw [List.length_take, List.length_drop, Nat.sub_mul]
                  have : hh' * sz ≤ n * sz := Nat.mul_le_mul_right _ h3
                  omega
                · by_cases hcl : n = l
                  · left; omega
                  · right
                    rw [if_neg hcl, add_none _ _ hsp]
                    exact ⟨rfl, (hcr.drop _).take _⟩
              · cases hr
            · cases hr
          · cases hr
    · cases hr
end
end Go.Ev
/- Maps, iterators, assertions, conversions. -/
set_option linter.unusedSectionVars false
set_option linter.unusedSimpArgs false
set_option linter.unusedVariables false
namespace Go.Ev
open Go
section
variable {X : Ctx} {B : Mem} {w : World} {M : Mem} {ρ : Rho} {H : Heap} {tm : List V} {a : Act} {o : Oper} {r : Res}

/- keys -/
theorem run_forIn_unit {α : Type} (P : Program) (w : World) (g : α → PUnit → Sem (ForInStep PUnit)) : ∀ l : List α, (∀ x ∈ l, (g x PUnit.unit).run P w = .ok (ForInStep.yield PUnit.unit) w) →
    (forIn l PUnit.unit g).run P w = .ok PUnit.unit w
  | [], _ => by simp
  | x :: r, h => by
    simp only [List.forIn_cons, Sem.run_bind, h x (by simp), Result.andThen_ok]
    exact run_forIn_unit P w g r fun y hy => h y (by simp [hy])

theorem plainT_check {t : TypeId} (h : plainT X t = true) (e : Bool) (n : Nat) (v : Value) (w : World) : (Instr.checkKey e (n + 1) t v).run X.P w = .ok () w ∧ aggT X t = some false := by
  unfold plainT at h
  split at h
  · rename_i hu; exact ⟨by simp [Instr.checkKey, run_und hu], by unfold aggT; rw [hu]; rfl⟩
  · rename_i hu; exact ⟨by simp [Instr.checkKey, run_und hu], by unfold aggT; rw [hu]; rfl⟩
  · rename_i hu; exact ⟨by simp [Instr.checkKey, run_und hu], by unfold aggT; rw [hu]; rfl⟩
  · cases h

theorem checkKey_run {kt : TypeId} {d : TypeDesc} (hu : und X kt = some d) {k : V} (hf : keyFits X d k = true) {c : Value} (hk : VRel M ρ k c) (e : Bool) (n : Nat) (w : World) :
    (Instr.checkKey e (n + 2) kt c).run X.P w = .ok () w := by
  unfold keyFits at hf
  split at hf
  · exact (plainT_check (by unfold plainT; rw [hu]) e (n + 1) c w).1
  · exact (plainT_check (by unfold plainT; rw [hu]) e (n + 1) c w).1
  · exact (plainT_check (by unfold plainT; rw [hu]) e (n + 1) c w).1
  · rename_i fs xs
    unfold VRel at hk
    obtain ⟨cs, rfl, hr⟩ := hk
    simp only [Bool.and_eq_true] at hf
    obtain ⟨hf, _⟩ := hf
    unfold Instr.checkKey
    simp only [Sem.run_bind, run_und hu, Result.andThen_ok]
    rw [← Array.forIn_toList]
    have h2 : ∀ g : Field → PUnit → Sem (ForInStep PUnit), (∀ f ∈ fs.toList, (g f PUnit.unit).run X.P w = .ok (ForInStep.yield PUnit.unit) w) → (forIn fs.toList PUnit.unit g).run X.P w = .ok PUnit.unit w := fun g hg => run_forIn_unit X.P w g _ hg
    rw [h2 _ ?_]
    · rfl
    intro f hfm
    have h1 := List.all_eq_true.1 hf f hfm
    simp only [Bool.and_eq_true, decide_eq_true_eq] at h1
    obtain ⟨⟨_, hp⟩, hlt⟩ := h1
    obtain ⟨c, hc, _⟩ := hr.get (List.getElem?_eq_getElem hlt)
    have hc' : cs[f.offset]? = some c := by simpa using hc
    obtain ⟨h2, h3⟩ := plainT_check hp e n c w
    have hpart : (part f.type cs f.offset).run X.P w = .ok c w := by simp [part, run_agg h3, hc']
    simp only [Sem.run_ite, Sem.run_bind, hpart, Result.andThen_ok, h2, Sem.run_pure, ite_self]
  · cases hf

theorem keySame_now {kt : TypeId} {d : TypeDesc} (hu : und X kt = some d) {k k' : V} {b : Bool} (h : keySame X kt d k k' = some b) {c c' : Value} (hk : VRel M ρ k c) (hk' : VRel M ρ k' c') (w : World) :
    (Instr.sameNow d c c' = some b ∨ ((∃ fs, d = .struct fs) ∧ Instr.sameNow d c c' = none)) ∧ (Op.equal kt c c').run X.P w = .ok b w := by
  unfold keySame at h
  split at h
  · have he := eqAt_run (d := .bool) hu (by simpa [eqAt] using h) hk hk' 9999 w
    unfold VRel at hk hk'; subst hk; subst hk'; cases h
    exact ⟨.inl rfl, he⟩
  · have he := eqAt_run hu (by simpa [eqAt] using h) hk hk' 9999 w
    unfold VRel at hk hk'; subst hk; subst hk'
    split at h
    · rename_i e; subst e; cases h
      exact ⟨.inl (by simp only [Instr.sameNow, if_true, Bool.beq_eq_decide_eq]), he⟩
    · cases h
  · have he := eqAt_run (d := .string) hu (by simpa [eqAt] using h) hk hk' 9999 w
    unfold VRel at hk hk'
    obtain ⟨p, rfl, rfl⟩ := hk
    obtain ⟨q, rfl, rfl⟩ := hk'
    cases h
    exact ⟨.inl (by simp only [Instr.sameNow, sameBytes_eq, beq_toListBytes, ByteArray.toList_eq]), he⟩
  · rename_i fs xs ys
    unfold VRel at hk hk'
    obtain ⟨cs, rfl, hr⟩ := hk
    obtain ⟨cs', rfl, hr'⟩ := hk'
    have ha : aggT X kt = some true := by unfold aggT; rw [hu]; rfl
    refine ⟨.inr ⟨⟨_, rfl⟩, rfl⟩, ?_⟩
    exact (eqT_run (M := M) (ρ := ρ) eqDepth).1 _ _ _ _ h _ (by decide) _ _ _ ⟨fun _ => ⟨cs, rfl, hr⟩, fun e => by rw [ha] at e; cases e⟩ ⟨fun _ => ⟨cs', rfl, hr'⟩, fun e => by rw [ha] at e; cases e⟩
  · cases h

theorem findKey_run {kt : TypeId} {d : TypeDesc} (hu : und X kt = some d) {k : V} {c : Value} (hk : VRel M ρ k c) (w : World) : ∀ (es : List (V × V)) (ces : List MapEntry) (i : Nat) (res : Option (Nat × V × V)),
    findKey X kt d k es i = some res → EsRel M ρ es ces →
    ∃ cres : Option (Nat × Value), (Instr.findNow d c ces i = some cres ∨ Instr.findNow d c ces i = none) ∧ (Instr.findAsking kt c ces i).run X.P w = .ok cres w ∧
      (match res, cres with
        | none, none => True
        | some (j, k', v), some (j', cv) => j = j' ∧ VRel M ρ v cv ∧ i ≤ j ∧ es[j - i]? = some (k', v) ∧ keySame X kt d k k' = some true
        | _, _ => False)
  | [], ces, i, res, h, he => by
    unfold EsRel at he; subst he
    simp only [findKey, Option.some.injEq] at h; subst h
    exact ⟨none, .inl rfl, rfl, trivial⟩
  | (k', v) :: r, ces, i, res, h, he => by
    unfold EsRel at he
    obtain ⟨e, es', rfl, hke, hve, hr⟩ := he
    simp only [findKey, Option.bind_eq_bind] at h
    cases hs : keySame X kt d k k' with
    | none => rw [hs] at h; cases h
    | some b =>
      rw [hs] at h
      simp only [Option.bind_some] at h
      obtain ⟨hnow, heq⟩ := keySame_now hu hs hk hke w
      cases b with
      | true =>
        simp only [if_true, Option.some.injEq] at h; subst h
        refine ⟨some (i, e.val), ?_, ?_, rfl, hve, Nat.le_refl _, by simp, hs⟩
        · rcases hnow with hn | ⟨_, hn⟩
          · left; simp only [Instr.findNow, hn]
          · right; simp only [Instr.findNow, hn]
        · simp only [Instr.findAsking, Sem.run_bind, heq, Result.andThen_ok, if_true, Sem.run_pure]
      | false =>
        simp only [Bool.false_eq_true, if_false] at h
        obtain ⟨cres, h1, h2, h3⟩ := findKey_run hu hk w r es' (i + 1) res h hr
        refine ⟨cres, ?_, ?_, ?_⟩
        · rcases hnow with hn | ⟨_, hn⟩
          · simp only [Instr.findNow, hn]; exact h1
          · right; simp only [Instr.findNow, hn]
        · simp only [Instr.findAsking, Sem.run_bind, heq, Result.andThen_ok, Bool.false_eq_true, if_false]; exact h2
        · revert h3
          cases res with
          | none => cases cres <;> exact id
          | some x =>
            obtain ⟨j, k2, v2⟩ := x
            cases cres with
            | none => exact id
            | some y =>
              obtain ⟨j', cv⟩ := y
              rintro ⟨e, h4, h5, h6, h7⟩
              refine ⟨e, h4, by omega, ?_, h7⟩
              rw [show j - i = (j - (i + 1)) + 1 from by omega, List.getElem?_cons_succ]
              exact h6

theorem findKey_run' {kt : TypeId} {d : TypeDesc} (hu : und X kt = some d) {k : V} {c : Value} (hk : VRel M ρ k c) {es : List (V × V)} {ces : List MapEntry} {res : Option (Nat × V × V)}
    (h : findKey X kt d k es 0 = some res) (he : EsRel M ρ es ces) (w : World) :
    ∃ cres : Option (Nat × Value), (Instr.findKey kt c ces).run X.P w = .ok cres w ∧
      (match res, cres with
        | none, none => True
        | some (j, k', v), some (j', cv) => j = j' ∧ VRel M ρ v cv ∧ es[j]? = some (k', v) ∧ keySame X kt d k k' = some true
        | _, _ => False) := by
  obtain ⟨cres, h1, h2, h3⟩ := findKey_run hu hk w es ces 0 res h he
  refine ⟨cres, ?_, ?_⟩
  · simp only [Instr.findKey, Sem.run_bind, run_und hu, Result.andThen_ok]
    rcases h1 with h1 | h1
    · rw [h1]; rfl
    · rw [h1]; exact h2
  · revert h3
    cases res with
    | none => cases cres <;> exact id
    | some x =>
      obtain ⟨j, k2, v2⟩ := x
      cases cres with
      | none => exact id
      | some y => obtain ⟨j', cv⟩ := y; rintro ⟨e, h4, h5, h6, h7⟩; exact ⟨e, h4, by simpa using h6, h7⟩

theorem mapOf_some {b : Nat} {es : List (V × V)} (h : mapOf H b = some es) : H.get b = some (.map es) := by
  unfold mapOf at h
  split at h
  · rename_i es' hg; cases h; exact hg
  · cases h
theorem map_at (h : HRel B w M ρ H) {b : Nat} {es : List (V × V)} (hm : mapOf H b = some es) : ∃ p ces clock, ρ b = some p ∧ p.fix = true ∧ w.heap[p.block]? = some (.map ces clock) ∧ EsRel M ρ es ces.toList ∧ Born ces clock := by
  obtain ⟨p, hp, hf, ces, clock, hb, hr, hbo⟩ := h.place (mapOf_some hm)
  exact ⟨p, ces, clock, hp, hf, hb, hr, hbo⟩

theorem EsRel.length : ∀ {es : List (V × V)} {l : List MapEntry}, EsRel M ρ es l → es.length = l.length
  | [], l, h => by unfold EsRel at h; subst h; rfl
  | (k, v) :: r, l, h => by
    unfold EsRel at h
    obtain ⟨e, es, rfl, _, _, hr⟩ := h
    simp [EsRel.length hr]
theorem EsRel.mono' {M' : Mem} {ρ' : Rho} (hM : M.le M') (hρ : ρ.le ρ') : ∀ {es : List (V × V)} {l : List MapEntry}, EsRel M ρ es l → EsRel M' ρ' es l
  | [], l, h => by unfold EsRel at *; exact h
  | (k, v) :: r, l, h => by
    unfold EsRel at *
    obtain ⟨e, es, hl, hk, hv, hr⟩ := h
    exact ⟨e, es, hl, VRel.mono hM hρ _ _ hk, VRel.mono hM hρ _ _ hv, EsRel.mono' hM hρ hr⟩
theorem EsRel.push : ∀ {es : List (V × V)} {l : List MapEntry}, EsRel M ρ es l → ∀ {k v : V} {e : MapEntry}, VRel M ρ k e.key → VRel M ρ v e.val → EsRel M ρ (es ++ [(k, v)]) (l ++ [e])
  | [], l, h, k, v, e, hk, hv => by
    unfold EsRel at h; subst h
    simp only [List.nil_append]
    unfold EsRel; exact ⟨e, [], rfl, hk, hv, by unfold EsRel; rfl⟩
  | (k', v') :: r, l, h, k, v, e, hk, hv => by
    unfold EsRel at h
    obtain ⟨e', es, rfl, hk', hv', hr⟩ := h
    simp only [List.cons_append]
    unfold EsRel
    exact ⟨e', es ++ [e], rfl, hk', hv', EsRel.push hr hk hv⟩
theorem EsRel.set : ∀ {es : List (V × V)} {l : List MapEntry}, EsRel M ρ es l → ∀ (i : Nat) {k v : V} {e : MapEntry}, VRel M ρ k e.key → VRel M ρ v e.val → EsRel M ρ (es.set i (k, v)) (l.set i e)
  | [], l, h, i, k, v, e, hk, hv => by unfold EsRel at h; subst h; unfold List.set EsRel; rfl
  | (k', v') :: r, l, h, i, k, v, e, hk, hv => by
    unfold EsRel at h
    obtain ⟨e', es, rfl, hk', hv', hr⟩ := h
    cases i with
    | zero => simp only [List.set_cons_zero]; unfold EsRel; exact ⟨e, es, rfl, hk, hv, hr⟩
    | succ i => simp only [List.set_cons_succ]; unfold EsRel; exact ⟨e', es.set i e, rfl, hk', hv', EsRel.set hr i hk hv⟩
theorem EsRel.getKey : ∀ {es : List (V × V)} {l : List MapEntry}, EsRel M ρ es l → ∀ {i : Nat} {k v : V}, es[i]? = some (k, v) → ∃ e, l[i]? = some e ∧ VRel M ρ k e.key
  | [], l, h, i, k, v, hi => by simp at hi
  | (k', v') :: r, l, h, i, k, v, hi => by
    unfold EsRel at h
    obtain ⟨e', es, rfl, hk', hv', hr⟩ := h
    cases i with
    | zero => simp at hi; obtain ⟨rfl, rfl⟩ := hi; exact ⟨e', rfl, hk'⟩
    | succ i => simp at hi; simpa using EsRel.getKey hr hi

theorem keyEq_bits (n : Nat) : ∀ {xs ys : List V} {cs ds : List Value}, keyEq xs ys = some true → LRel M ρ xs cs → LRel M ρ ys ds → cs.length = ds.length ∧ ((cs.zip ds).all fun (x, y) => Instr.sameBits n x y) = true
  | [], [], cs, ds, h, hc, hd => by unfold LRel at hc hd; subst hc; subst hd; exact ⟨rfl, rfl⟩
  | [], _ :: _, cs, ds, h, hc, hd => by simp [keyEq] at h
  | x :: xs, [], cs, ds, h, hc, hd => by cases x <;> simp [keyEq] at h
  | x :: xs, y :: ys, cs, ds, h, hc, hd => by
    unfold LRel at hc hd
    obtain ⟨c, cs', rfl, hx, hxs⟩ := hc
    obtain ⟨d, ds', rfl, hy, hys⟩ := hd
    have key : Instr.sameBits n c d = true ∧ keyEq xs ys = some true := by
      unfold keyEq at h
      split at h
      · simp at *
      · rename_i heq1 heq2
        simp only [List.cons.injEq] at heq1 heq2
        obtain ⟨rfl, rfl⟩ := heq1
        obtain ⟨rfl, rfl⟩ := heq2
        unfold VRel at hx hy; subst hx; subst hy
        split at h
        · rename_i e; exact ⟨by cases n <;> simpa [Instr.sameBits] using e, h⟩
        · cases h
      · rename_i heq1 heq2
        simp only [List.cons.injEq] at heq1 heq2
        obtain ⟨rfl, rfl⟩ := heq1
        obtain ⟨rfl, rfl⟩ := heq2
        unfold VRel at hx hy; subst hx; subst hy
        split at h
        · split at h
          · rename_i e1 e2; subst e1; subst e2; exact ⟨by cases n <;> simp [Instr.sameBits], h⟩
          · cases h
        · cases h
      · rename_i heq1 heq2
        simp only [List.cons.injEq] at heq1 heq2
        obtain ⟨rfl, rfl⟩ := heq1
        obtain ⟨rfl, rfl⟩ := heq2
        unfold VRel at hx hy
        obtain ⟨p, rfl, rfl⟩ := hx
        obtain ⟨q, rfl, rfl⟩ := hy
        split at h
        · rename_i e
          refine ⟨?_, h⟩
          rw [sameBytes_eq] at e
          cases n <;> simp only [Instr.sameBits, beq_toListBytes, ByteArray.toList_eq] <;> exact e
        · cases h
      · cases h
    obtain ⟨h1, h2⟩ := keyEq_bits n key.2 hxs hys
    exact ⟨by simp [h1], by simp only [List.zip_cons_cons, List.all_cons, key.1, Bool.true_and]; exact h2⟩

theorem keyStays {k k' : V} (h : keyEq k.cells k'.cells = some true) (hm : aggAlike k k' = true) {c c' : Value} (hk : VRel M ρ k c) (hk' : VRel M ρ k' c') (P : Program) (w : World) :
    (Instr.keyThatStays c' c).run P w = .ok c w := by
  have hb : Instr.sameBits 10000 c' c = true := by
    have one : ∀ (x y : V), keyEq [x] [y] = some true → ∀ cx cy, VRel M ρ x cx → VRel M ρ y cy → Instr.sameBits 10000 cy cx = true := by
      intro x y he cx cy hx hy
      unfold keyEq at he
      split at he
      · simp at *
      · rename_i heq1 heq2
        simp only [List.cons.injEq] at heq1 heq2
        obtain ⟨rfl, rfl⟩ := heq1
        obtain ⟨rfl, rfl⟩ := heq2
        unfold VRel at hx hy; subst hx; subst hy
        split at he
        · rename_i e; simp only [beq_iff_eq] at e; subst e; simp [Instr.sameBits]
        · cases he
      · rename_i heq1 heq2
        simp only [List.cons.injEq] at heq1 heq2
        obtain ⟨rfl, rfl⟩ := heq1
        obtain ⟨rfl, rfl⟩ := heq2
        unfold VRel at hx hy; subst hx; subst hy
        split at he
        · split at he
          · rename_i e1 e2; subst e1; subst e2; simp [Instr.sameBits]
          · cases he
        · cases he
      · rename_i heq1 heq2
        simp only [List.cons.injEq] at heq1 heq2
        obtain ⟨rfl, rfl⟩ := heq1
        obtain ⟨rfl, rfl⟩ := heq2
        unfold VRel at hx hy
        obtain ⟨p, rfl, rfl⟩ := hx
        obtain ⟨q, rfl, rfl⟩ := hy
        split at he
        · rename_i e
          rw [sameBytes_eq] at e
          simp only [Instr.sameBits, beq_toListBytes, ByteArray.toList_eq]
          simp only [beq_iff_eq] at e ⊢
          exact e.symm
        · cases he
      · cases he
    cases k <;> cases k' <;> (try simp [aggAlike] at hm) <;> (try exact one _ _ h c c' hk hk')
    · rename_i xs ys
      unfold VRel at hk hk'
      obtain ⟨cs, rfl, hr⟩ := hk
      obtain ⟨cs', rfl, hr'⟩ := hk'
      have hsym : ∀ {xs ys : List V}, keyEq xs ys = some true → keyEq ys xs = some true := by
        intro xs
        induction xs with
        | nil => intro ys h; cases ys with
          | nil => rfl
          | cons => simp [keyEq] at h
        | cons x xs ih =>
          intro ys h
          cases ys with
          | nil => cases x <;> simp [keyEq] at h
          | cons y ys =>
            cases x <;> cases y <;> simp only [keyEq, reduceCtorEq] at h ⊢
            · split at h
              · rename_i e; simp only [beq_iff_eq] at e; subst e; simp [ih h]
              · cases h
            · split at h
              · split at h
                · rename_i e1 e2; subst e1; subst e2; simp [ih h]
                · cases h
              · cases h
            · split at h
              · rename_i e; rw [sameBytes_eq, beq_iff_eq] at e; subst e; simp [sameBytes_eq, ih h]
              · cases h
      obtain ⟨h1, h2⟩ := keyEq_bits (M := M) (ρ := ρ) 9999 (hsym h) hr' hr
      simp only [Array.length_toList] at h1
      simp only [Instr.sameBits, h1, beq_self_eq_true, Bool.true_and]
      exact h2
  simp [Instr.keyThatStays, hb]
end
end Go.Ev
/- Maps, iterators, assertions, conversions, new slices. -/
set_option linter.unusedSectionVars false
set_option linter.unusedSimpArgs false
set_option linter.unusedVariables false
namespace Go.Ev
open Go
section
variable {X : Ctx} {B : Mem} {w : World} {M : Mem} {ρ : Rho} {H : Heap} {tm : List V} {a : Act} {o : Oper} {r : Res}

theorem run_getMap {w : World} {b : Nat} {ces : Array MapEntry} {clock : Nat} (h : w.heap[b]? = some (.map ces clock)) (P : Program) : (getObj b).run P w = .ok (.map ces clock) w := by
  simp only [getObj, Sem.run, h]
theorem run_getIter {w : World} {b : Nat} {s : ByteArray} {pos : Nat} (h : w.heap[b]? = some (.stringIter s pos)) (P : Program) : (getObj b).run P w = .ok (.stringIter s pos) w := by
  simp only [getObj, Sem.run, h]
theorem run_setMap {w : World} {b : Nat} {ces : Array MapEntry} {clock : Nat} {o : Obj} (h : w.heap[b]? = some (.map ces clock)) (P : Program) : (setObj b o).run P w = .ok () { w with heap := w.heap.setIfInBounds b o } := by
  simp only [setObj, Sem.run, h]
theorem run_setIter {w : World} {b : Nat} {s : ByteArray} {pos : Nat} {o : Obj} (h : w.heap[b]? = some (.stringIter s pos)) (P : Program) : (setObj b o).run P w = .ok () { w with heap := w.heap.setIfInBounds b o } := by
  simp only [setObj, Sem.run, h]

variable (hX : CtxOK X B) (h : HRel B w M ρ H) (ht : LRel M ρ tm a.tmps.toList)
include hX h ht

theorem op_makeMap {t : TypeId} {rs : Option Operand} (ho : o.op = .makeMap t rs) {kt et : TypeId} (hu : und X t = some (.map kt et)) (hrs : rs.map (opd X tm) = none ∨ ∃ k n, rs.map (opd X tm) = some (.int k n)) {b : Nat} (hb : H.get b = none) :
    StepTo X.P o a w (OpPost B w M ρ H (.map b) (H.put b (some (.map [])))) := by
  obtain ⟨ρ', h1, h2, h3, h4⟩ := HRel.layObj h hb (.map []) (.map #[] 0) rfl (fun ρ' w' hw => ⟨rfl, #[], 0, hw, by unfold EsRel; rfl, Born.nil⟩)
  refine StepTo.val (s := Instr.makeMap t (rs.map a.eval)) (by simp only [execOp, ho]) (c := .map (some w.heap.size)) (w' := w.alloc (.map #[] 0)) ?_ ⟨M, ρ', h1, ?_, h2, h3⟩
  · obtain ⟨h5, h6⟩ := opd_opt hX h ht rs
    rcases hrs with hrs | ⟨k, n, hrs⟩
    · rw [h6 hrs]; rfl
    · obtain ⟨y, hy, hyr⟩ := h5 _ hrs
      unfold VRel at hyr; subst hyr
      rw [hy]
      simp [Instr.makeMap, run_und hu, asInt, asIntOf]
  · unfold VRel; exact ⟨_, h4, rfl, rfl⟩

theorem op_lookup {t : TypeId} {x ix : Operand} {ok : Bool} (ho : o.op = .lookup t x ix ok) (hr : lookupV X t (opd X tm x) (opd X tm ix) ok H = some r) : r.wr = [] ∧ StepTo X.P o a w (OpPost B w M ρ H r.v H) := by
  have hv := opd_rel hX h ht x
  have hi := opd_rel hX h ht ix
  have he : execOp a.eval o = (do pure (.value (← Instr.lookup t (a.eval x) (a.eval ix) ok))) := by simp only [execOp, ho]
  unfold lookupV at hr
  cases hu : und X t with
  | none => simp [hu] at hr
  | some dd =>
    cases dd <;> simp only [hu, Option.bind_eq_bind, Option.bind_some, reduceCtorEq] at hr
    rename_i kt et
    cases hd : und X kt with
    | none => rw [hd] at hr; cases hr
    | some d =>
      simp only [hd, Option.bind_some] at hr
      split at hr
      · cases hr
      · rename_i hkf
        have hkf' : keyFits X d (opd X tm ix) = true := by simpa using hkf
        cases hz : zeroV X et with
        | none => rw [hz] at hr; cases hr
        | some z =>
          simp only [hz, Option.bind_some] at hr
          have give : ∀ (res : Option (Nat × V × V)) (cres : Option (Nat × Value)) (es : Array MapEntry), (match res, cres with
              | none, none => True
              | some (j, k', v), some (j', cv) => VRel M ρ v cv
              | _, _ => False) →
              (∀ em, (Instr.checkKey em 10000 kt (a.eval ix)).run X.P w = .ok () w) → (Instr.findKey kt (a.eval ix) es.toList).run X.P w = .ok cres w →
              ∀ getEs : Sem (Array MapEntry), getEs.run X.P w = .ok es w →
              (let (v, okk) := match res with | some (_, _, v) => (v, true) | none => (z, false)
               ∃ c, (do
                  let es ← getEs
                  Instr.checkKey es.isEmpty 10000 kt (a.eval ix)
                  let (v, okk) ← match ← Instr.findKey kt (a.eval ix) es.toList with
                    | some (_, v) => pure (v, true)
                    | none => pure (← zeroValue et, false)
                  pure (if ok then .tuple #[v, .bool okk] else v) : Sem Value).run X.P w = .ok c w ∧ VRel M ρ (if ok then .tuple [v, .bool okk] else v) c) := by
            intro res cres es hres hck hfk getEs hge
            have tup : ∀ (v : V) (c : Value) (bb : Bool), VRel M ρ v c → VRel M ρ (if ok then .tuple [v, .bool bb] else v) (if ok then .tuple #[c, .bool bb] else c) := by
              intro v c bb hvc
              cases ok
              · exact hvc
              · simp only [if_true]
                unfold VRel
                refine ⟨_, rfl, ?_⟩
                unfold LRel
                refine ⟨c, [.bool bb], rfl, hvc, ?_⟩
                unfold LRel
                exact ⟨_, [], rfl, by unfold VRel; rfl, by unfold LRel; rfl⟩
            cases res with
            | none =>
              cases cres with
              | some y => exact hres.elim
              | none =>
                obtain ⟨c, hc, hcr⟩ := run_zero hz w
                exact ⟨_, by simp only [Sem.run_bind, hge, Result.andThen_ok, hck, hfk, hc, Sem.run_pure], tup z c false (hcr M ρ)⟩
            | some y =>
              obtain ⟨j, k', v⟩ := y
              cases cres with
              | none => exact hres.elim
              | some y =>
                obtain ⟨j', cv⟩ := y
                exact ⟨_, by simp only [Sem.run_bind, hge, Result.andThen_ok, hck, hfk, Sem.run_pure], tup v cv true hres⟩
          have hck : ∀ em, (Instr.checkKey em 10000 kt (a.eval ix)).run X.P w = .ok () w := fun em => checkKey_run hd hkf' hi em 9998 w
          split at hr
          · rename_i hx
            rw [hx] at hv
            unfold VRel at hv
            simp only [Option.some.injEq] at hr
            subst hr
            refine ⟨rfl, ?_⟩
            obtain ⟨c, hc, hcr⟩ := give none none #[] trivial hck (by simp [Instr.findKey, run_und hd, Instr.findNow]) (pure #[]) rfl
            refine StepTo.val he (c := c) (w' := w) ?_ (OpPost.same h hcr)
            rw [hv]
            simp only [Instr.lookup, Sem.run_bind, run_und hu, Result.andThen_ok] at hc ⊢
            exact hc
          · rename_i b hx
            rw [hx] at hv
            unfold VRel at hv
            obtain ⟨p, hp, hfix, hc⟩ := hv
            cases hm : mapOf H b with
            | none => rw [hm] at hr; cases hr
            | some es =>
              simp only [hm, Option.bind_some] at hr
              cases hfk : findKey X kt d (opd X tm ix) es 0 with
              | none => rw [hfk] at hr; cases hr
              | some res =>
                simp only [hfk, Option.bind_some, Option.some.injEq] at hr
                subst hr
                obtain ⟨p', ces, clock, hp', _, hb, hes, hbo⟩ := map_at h hm
                rw [hp] at hp'; cases hp'
                obtain ⟨cres, h1, h2⟩ := findKey_run' hd hi hfk hes w
                refine ⟨rfl, ?_⟩
                obtain ⟨c, hc', hcr⟩ := give res cres ces (by
                  revert h2
                  cases res with
                  | none => cases cres <;> exact id
                  | some y =>
                    obtain ⟨j, k', v⟩ := y
                    cases cres with
                    | none => exact id
                    | some y => obtain ⟨j', cv⟩ := y; exact fun h => h.2.1) hck h1 (do
                      let .map es _ ← getObj p.block | stuck "Lookup: map expected"
                      pure es) (by simp [run_getMap hb])
                refine StepTo.val he (c := c) (w' := w) ?_ (OpPost.same h hcr)
                rw [hc]
                simp only [Instr.lookup, Sem.run_bind, run_und hu, Result.andThen_ok, run_getMap hb] at hc' ⊢
                exact hc'
          · cases hr

theorem op_update {t : TypeId} {m k v : Operand} (ho : o.op = .mapUpdate t m k v ∨ o.op = .insert t m k v) (hr : updateV X t (opd X tm m) (opd X tm k) (opd X tm v) H = some r) : StepTo X.P o a w (OpPost B w M ρ H r.v (putAll H r.wr)) := by
  have hm := opd_rel hX h ht m
  have hk := opd_rel hX h ht k
  have hv := opd_rel hX h ht v
  have he : execOp a.eval o = (do Instr.mapUpdate t (a.eval m) (a.eval k) (a.eval v); pure .skip) := by
    rcases ho with ho | ho <;> simp only [execOp, ho]
  unfold updateV at hr
  cases hu : und X t with
  | none => simp [hu] at hr
  | some dd =>
    cases dd <;> simp only [hu, Option.bind_eq_bind, Option.bind_some, reduceCtorEq] at hr
    rename_i kt et
    cases hd : und X kt with
    | none => rw [hd] at hr; cases hr
    | some d =>
      simp only [hd, Option.bind_some] at hr
      split at hr
      · cases hr
      · rename_i hkf
        have hkf' : keyFits X d (opd X tm k) = true := by simpa using hkf
        have hck : ∀ em, (Instr.checkKey em 10000 kt (a.eval k)).run X.P w = .ok () w := fun em => checkKey_run hd hkf' hk em 9998 w
        split at hr
        · rename_i b hx
          rw [hx] at hm
          unfold VRel at hm
          obtain ⟨p, hp, hfix, hc⟩ := hm
          cases hmo : mapOf H b with
          | none => rw [hmo] at hr; cases hr
          | some es =>
            simp only [hmo, Option.bind_some] at hr
            obtain ⟨p', ces, clock, hp', _, hb, hes, hbo⟩ := map_at h hmo
            rw [hp] at hp'; cases hp'
            cases hfk : findKey X kt d (opd X tm k) es 0 with
            | none => rw [hfk] at hr; cases hr
            | some res =>
              obtain ⟨cres, h1, h2⟩ := findKey_run' hd hk hfk hes w
              simp only [hfk, Option.bind_some] at hr
              cases res with
              | none =>
                cases cres with
                | some y => exact h2.elim
                | none =>
                  simp only [Option.some.injEq] at hr
                  subst hr
                  obtain ⟨ρ', g1, g2, g3⟩ := HRel.turnObj h (o := .map (ces.push { key := a.eval k, val := a.eval v, born := clock }) (clock + 1)) (y := .map (es ++ [(opd X tm k, opd X tm v)])) (mapOf_some hmo) rfl hp rfl hb
                    (fun ρ' hle w' hw' => ⟨hfix, _, _, hw', by
                      rw [Array.toList_push]
                      exact EsRel.push (EsRel.mono' (Mem.le_refl _) hle hes) (VRel.mono (Mem.le_refl _) hle _ _ hk) (VRel.mono (Mem.le_refl _) hle _ _ hv), hbo.push _ _⟩) (by simp) (by simp)
                  refine StepTo.unit he (w' := { w with heap := w.heap.setIfInBounds p.block (.map (ces.push { key := a.eval k, val := a.eval v, born := clock }) (clock + 1)) }) ?_ ⟨M, ρ', g1, by unfold VRel; trivial, g2, g3⟩
                  rw [hc]
                  simp only [Instr.mapUpdate, Sem.run_bind, run_und hu, Result.andThen_ok, run_getMap hb, hck, h1, run_setMap hb]
              | some y =>
                obtain ⟨i, k', v'⟩ := y
                cases cres with
                | none => exact h2.elim
                | some y =>
                  obtain ⟨j', cv⟩ := y
                  obtain ⟨rfl, _, hget, _⟩ := h2
                  simp only [Bool.and_eq_true, decide_eq_true_eq] at hr
                  split at hr
                  · rename_i hcond
                    simp only [Option.some.injEq] at hr
                    subst hr
                    obtain ⟨e, hge, hke⟩ := hes.getKey hget
                    have hge' : ces[i]? = some e := by simpa using hge
                    have hst := keyStays hcond.1 hcond.2 hk hke X.P w
                    have hmod : (ces.modify i fun e => { e with key := a.eval k, val := a.eval v }).toList = ces.toList.set i { e with key := a.eval k, val := a.eval v } := by
                      apply List.ext_getElem?
                      intro j
                      rw [Array.getElem?_toList, Array.getElem?_modify, List.getElem?_set]
                      have hlt : i < ces.toList.length := by
                        rcases Nat.lt_or_ge i ces.toList.length with h1 | h1
                        · exact h1
                        · rw [List.getElem?_eq_none h1] at hge; cases hge
                      by_cases e1 : i = j
                      · subst e1
                        simp only [if_true, hge', Option.map_some, hlt]
                      · simp only [e1, if_false, Array.getElem?_toList]
                    obtain ⟨ρ', g1, g2, g3⟩ := HRel.turnObj h (o := .map (ces.modify i fun e => { e with key := a.eval k, val := a.eval v }) clock) (y := .map (es.set i (opd X tm k, opd X tm v))) (mapOf_some hmo) rfl hp rfl hb
                      (fun ρ' hle w' hw' => ⟨hfix, _, _, hw', by
                        rw [hmod]
                        exact EsRel.set (EsRel.mono' (Mem.le_refl _) hle hes) i (VRel.mono (Mem.le_refl _) hle _ _ hk) (VRel.mono (Mem.le_refl _) hle _ _ hv), hbo.modify _ _ (fun _ => rfl)⟩) (by simp) (by simp)
                    refine StepTo.unit he (w' := { w with heap := w.heap.setIfInBounds p.block (.map (ces.modify i fun e => { e with key := a.eval k, val := a.eval v }) clock) }) ?_ ⟨M, ρ', g1, by unfold VRel; trivial, g2, g3⟩
                    rw [hc]
                    simp only [Instr.mapUpdate, Sem.run_bind, run_und hu, Result.andThen_ok, run_getMap hb, hck, h1, hge', Option.map_some, Option.getD_some, hst, run_setMap hb]
                  · cases hr
        · cases hr

theorem op_range {t : TypeId} {x : Operand} (ho : o.op = .range t x) (hu : und X t = some .string) {s : List UInt8} (hx : opd X tm x = .str s) {b : Nat} (hb : H.get b = none) :
    StepTo X.P o a w (OpPost B w M ρ H (.iter b) (H.put b (some (.iter s 0)))) := by
  have hv := opd_rel hX h ht x
  rw [hx] at hv
  unfold VRel at hv
  obtain ⟨bs, hbs, hrel⟩ := hv
  obtain ⟨ρ', h1, h2, h3, h4⟩ := HRel.layObj h hb (.iter s 0) (.stringIter bs 0) rfl (fun ρ' w' hw => ⟨rfl, bs, hw, hrel⟩)
  refine StepTo.val (s := Instr.range t (a.eval x)) (by simp only [execOp, ho]) (c := .pointer (some ⟨w.heap.size, 0, none⟩)) (w' := w.alloc (.stringIter bs 0)) ?_ ⟨M, ρ', h1, ?_, h2, h3⟩
  · simp only [Instr.range, Sem.run_bind, run_und hu, Result.andThen_ok, hbs, Sem.run_pure, run_newObj]
    rfl
  · unfold VRel; exact ⟨_, h4, rfl, rfl⟩

theorem op_next {it : Operand} {str : Bool} (ho : o.op = .next it str) (hr : nextV (opd X tm it) str H = some r) : StepTo X.P o a w (OpPost B w M ρ H r.v (putAll H r.wr)) := by
  have hv := opd_rel hX h ht it
  unfold nextV at hr
  split at hr
  · rename_i b hx
    rw [hx] at hv
    unfold VRel at hv
    obtain ⟨p, hp, hfix, hc⟩ := hv
    split at hr
    · rename_i s pos hg
      obtain ⟨p', hp', hbr⟩ := h.place hg
      rw [hp] at hp'; cases hp'
      obtain ⟨_, bs, hb, hrel⟩ := hbr
      have hsz : bs.size = s.length := by rw [← hrel, Array.length_toList]; rfl
      have hbs : bs = ⟨s.toArray⟩ := by
        obtain ⟨⟨l⟩⟩ := bs
        simp only at hrel
        subst hrel; rfl
      split at hr
      · rename_i hlt
        simp only [Option.some.injEq] at hr
        subst hr
        simp only [putAll_one]
        obtain ⟨ρ', g1, g2, g3⟩ := HRel.turnObj h (o := .stringIter bs (pos + (Utf8.decode bs pos).2)) (y := .iter s (pos + (Utf8.decode bs pos).2)) hg rfl hp rfl hb
          (fun ρ' hle w' hw' => ⟨hfix, _, hw', hrel⟩) (by simp) (by simp)
        rw [hbs] at g1 g2
        refine StepTo.val (s := Instr.next (a.eval it) true o.type) (by simp only [execOp, ho]) (c := .tuple #[.bool true, goInt pos, .int .i32 (Utf8.decode bs pos).1]) (w' := { w with heap := w.heap.setIfInBounds p.block (.stringIter bs (pos + (Utf8.decode bs pos).2)) }) ?_ ⟨M, ρ', by rw [hbs]; exact g1, ?_, by rw [hbs]; exact g2, g3⟩
        · rw [hc]
          have : pos < bs.size := by omega
          simp only [Instr.next, Sem.run_bind, run_getIter hb, Result.andThen_ok, this, if_true, run_setIter hb, Sem.run_pure]
        · unfold VRel
          refine ⟨_, rfl, ?_⟩
          rw [hbs]
          unfold LRel
          refine ⟨_, _, rfl, by unfold VRel; rfl, ?_⟩
          unfold LRel
          refine ⟨_, _, rfl, by unfold VRel; rfl, ?_⟩
          unfold LRel
          exact ⟨_, _, rfl, by unfold VRel; rfl, by unfold LRel; rfl⟩
      · rename_i hge
        simp only [Option.some.injEq] at hr
        subst hr
        refine StepTo.val (s := Instr.next (a.eval it) true o.type) (by simp only [execOp, ho]) (c := .tuple #[.bool false]) (w' := w) ?_ (OpPost.same h ?_)
        · rw [hc]
          have : ¬ pos < bs.size := by omega
          simp only [Instr.next, Sem.run_bind, run_getIter hb, Result.andThen_ok, this, if_false, Sem.run_pure]
        · unfold VRel
          refine ⟨_, rfl, ?_⟩
          unfold LRel
          exact ⟨_, _, rfl, by unfold VRel; rfl, by unfold LRel; rfl⟩
    · cases hr
  · cases hr

theorem op_assert {x : Operand} {xt t : TypeId} {ok : Bool} (ho : o.op = .typeAssert x xt t ok) (hr : assertV X (opd X tm x) t ok = some r) : r.wr = [] ∧ StepTo X.P o a w (OpPost B w M ρ H r.v H) := by
  have hv := opd_rel hX h ht x
  have he : execOp a.eval o = (do pure (.value (← Instr.typeAssert (a.eval x) xt t ok))) := by simp only [execOp, ho]
  have tup : ∀ (v : V) (c : Value) (bb : Bool), VRel M ρ v c → VRel M ρ (.tuple [v, .bool bb]) (.tuple #[c, .bool bb]) := by
    intro v c bb hvc
    unfold VRel
    refine ⟨_, rfl, ?_⟩
    unfold LRel
    refine ⟨c, [.bool bb], rfl, hvc, ?_⟩
    unfold LRel
    exact ⟨_, [], rfl, by unfold VRel; rfl, by unfold LRel; rfl⟩
  have holds : ∀ (v : V) (c : Value), VRel M ρ v c → VRel M ρ (if ok then .tuple [v, .bool true] else v) (if ok then .tuple #[c, .bool true] else c) := by
    intro v c hvc
    cases ok
    · exact hvc
    · exact tup v c true hvc
  unfold assertV at hr
  simp only [Option.bind_eq_bind] at hr
  cases hu : und X t with
  | none => rw [hu] at hr; cases hr
  | some d =>
    simp only [hu, Option.bind_some] at hr
    have fails : ∀ {z : V} {vv : V}, zeroV X t = some z → (if ok = true then some ({ v := .tuple [z, .bool false] } : Res) else none) = some r → ∃ c, ok = true ∧ (zeroValue t).run X.P w = .ok c w ∧ r.wr = [] ∧ VRel M ρ r.v (.tuple #[c, .bool false]) := by
      intro z vv hz hrr
      obtain ⟨c, hc, hcr⟩ := run_zero hz w
      cases ok with
      | false => simp at hrr
      | true =>
        simp only [if_true, Option.some.injEq] at hrr
        subst hrr
        exact ⟨c, rfl, hc, rfl, tup z c false (hcr M ρ)⟩
    split at hr
    · rename_i ms hx
      rw [hx] at hv
      unfold VRel at hv
      cases hz : zeroV X t with
      | none => rw [hz] at hr; cases hr
      | some z =>
        rw [hz] at hr
        obtain ⟨c, rfl, hc, hw, hrel⟩ := fails (vv := .dead) hz hr
        refine ⟨hw, StepTo.val he (c := .tuple #[c, .bool false]) (w' := w) ?_ (OpPost.same h hrel)⟩
        rw [hv]
        simp only [Instr.typeAssert, Sem.run_bind, run_und hu, Result.andThen_ok, if_true, hc, Sem.run_pure]
    · rename_i want dd v hx
      rw [hx] at hv
      have hv0 := hv
      unfold VRel at hv
      obtain ⟨c0, hc0, hvr⟩ := hv
      split at hr
      · rename_i i hi
        split at hr
        · rename_i hmm
          simp only [Option.some.injEq] at hr
          subst hr
          refine ⟨rfl, StepTo.val he (c := if ok then .tuple #[.iface dd c0, .bool true] else .iface dd c0) (w' := w) ?_ (OpPost.same h (holds _ _ (by rw [← hc0]; exact hv0)))⟩
          rw [hc0]
          simp only [Instr.typeAssert, Sem.run_bind, run_und hu, Result.andThen_ok, run_info hi, hmm, Sem.run_pure]
        · rename_i m hmm
          cases hz : zeroV X t with
          | none => rw [hz] at hr; cases hr
          | some z =>
            rw [hz] at hr
            obtain ⟨c, rfl, hc, hw, hrel⟩ := fails (vv := .dead) hz hr
            refine ⟨hw, StepTo.val he (c := .tuple #[c, .bool false]) (w' := w) ?_ (OpPost.same h hrel)⟩
            rw [hc0]
            simp only [Instr.typeAssert, Sem.run_bind, run_und hu, Result.andThen_ok, run_info hi, hmm, if_true, hc, Sem.run_pure]
      · cases hr
    · rename_i d _ _ hnotI hx
      rw [hx] at hv
      unfold VRel at hv
      cases hz : zeroV X t with
      | none => rw [hz] at hr; cases hr
      | some z =>
        rw [hz] at hr
        obtain ⟨c, rfl, hc, hw, hrel⟩ := fails (vv := .dead) hz hr
        refine ⟨hw, StepTo.val he (c := .tuple #[c, .bool false]) (w' := w) ?_ (OpPost.same h hrel)⟩
        rw [hv]
        cases d <;> first | exact absurd rfl (hnotI _) | simp only [Instr.typeAssert, Sem.run_bind, run_und hu, Result.andThen_ok, if_true, hc, Sem.run_pure]
    · rename_i d _ _ dd v hnotI hx
      rw [hx] at hv
      unfold VRel at hv
      obtain ⟨c0, hc0, hvr⟩ := hv
      split at hr
      · rename_i e
        subst e
        simp only [Option.some.injEq] at hr
        subst hr
        refine ⟨rfl, StepTo.val he (c := if ok then .tuple #[c0, .bool true] else c0) (w' := w) ?_ (OpPost.same h (holds _ _ hvr))⟩
        rw [hc0]
        cases d <;> first | exact absurd rfl (hnotI _) | simp only [Instr.typeAssert, Sem.run_bind, run_und hu, Result.andThen_ok, if_true, Sem.run_pure]
      · rename_i hne
        cases hz : zeroV X t with
        | none => rw [hz] at hr; cases hr
        | some z =>
          rw [hz] at hr
          obtain ⟨c, rfl, hc, hw, hrel⟩ := fails (vv := .dead) hz hr
          refine ⟨hw, StepTo.val he (c := .tuple #[c, .bool false]) (w' := w) ?_ (OpPost.same h hrel)⟩
          rw [hc0]
          cases d <;> first | exact absurd rfl (hnotI _) | simp only [Instr.typeAssert, Sem.run_bind, run_und hu, Result.andThen_ok, hne, if_false, if_true, hc, Sem.run_pure]
    · cases hr
end
end Go.Ev
