/- A part of the proof of BenchRefuses: no statement of the seat's stands here. -/
import Derived.RangeFuncRecord
import Derived.Test.YtbcackicpjobmaaGreatDoorEvG
import Derived.Test.YtbcackicpjobmaaGreatDoorEvF
set_option linter.unusedSectionVars false
set_option linter.unusedSimpArgs false
set_option linter.unusedVariables false
set_option linter.all false
/- Any operation. -/
set_option linter.unusedSectionVars false
set_option linter.unusedSimpArgs false
set_option linter.unusedVariables false
namespace Go.Ev
open Go
section
variable {X : Ctx} {B : Mem} {w : World} {M : Mem} {ρ : Rho} {H : Heap} {tm : List V} {a : Act} {o : Oper} {r : Res}

theorem evOp_sound {call : CallFn} (hX : CtxOK X B) (hC : CallsOK X.P B call) (h : HRel B w M ρ H) (ht : LRel M ρ tm a.tmps.toList) {fresh : Nat → Nat} (hf : Fresh H fresh)
    (hr : evOp X call o fresh tm H = some r) (hny : ∀ c f b, o.op = .call c → c.callee = .value f → opd X tm f ≠ .yield b) : StepTo X.P o a w (OpPost B w M ρ H r.v (putAll H r.wr)) := by
  have hb := hf.1 0
  unfold evOp evOpR at hr
  split at hr
  case h_1 x ho =>
    cases hr
    exact op_move hX h ht (.inl ho)
  case h_2 x ho =>
    cases hr
    exact op_move hX h ht (.inr ho)
  case h_3 c x y ho =>
    split at hr
    · rename_i hc; cases hr; exact op_pick hX h ht ho hc
    · rename_i hc; cases hr; exact op_pick hX h ht ho hc
    · cases hr
  case h_4 e ho =>
    obtain ⟨z, hz, hr⟩ := Option.bind_eq_some_iff.1 hr
    split at hr
    · rename_i hc
      split at hr
      · cases hr
        exact op_alloc hX h ht ho hz hc hb
      · split at hr
        · rename_i htn
          simp only [Bool.and_eq_true, decide_eq_true_eq] at htn
          obtain ⟨rfl, rfl⟩ := htn
          cases hr
          exact op_allocT hX h ht ho hz hc hb
        · cases hr
    · cases hr
  case h_5 e x ho =>
    simp only at hr
    split at hr
    · rename_i hc
      cases hr
      exact op_box hX h ht ho hc hb
    · cases hr
  case h_6 t parts ho =>
    obtain ⟨z, hz, hr⟩ := Option.bind_eq_some_iff.1 hr
    cases z with
    | agg z =>
      simp only at hr
      obtain ⟨ag, hag, hr⟩ := Option.bind_eq_some_iff.1 hr
      unfold aggT at hag
      cases hu : und X t with
      | none => rw [hu] at hag; cases hag
      | some d =>
        rw [hu] at hag hr
        simp only [Option.map_some, Option.some.injEq] at hag
        subst hag
        cases d with
        | struct fs =>
          simp only at hr
          split at hr
          · cases hr
          · split at hr
            · cases hr
            · rename_i hall
              obtain ⟨cs, hcs, hr⟩ := Option.bind_eq_some_iff.1 hr
              cases hr
              refine op_build hX h ht ho hz hu (.inl ⟨fs, rfl, by cases hq : fs.toList.all (fun f => (size X f.type).isSome) with | true => rfl | false => rw [hq] at hall; exact absurd rfl hall⟩) (fun i x hx => ?_) hcs ⟨z, rfl⟩
              simp only at hx ⊢
              cases hfi : fs[i]? with
              | none => rw [hfi] at hx; cases hx
              | some f =>
                rw [hfi] at hx
                obtain ⟨n, hn, rfl⟩ := Option.map_eq_some_iff.1 hx
                exact ⟨f, n, rfl, hn, rfl⟩
        | array n e =>
          simp only at hr
          split at hr
          · cases hr
          · split at hr
            · cases hr
            · rename_i hsz
              obtain ⟨cs, hcs, hr⟩ := Option.bind_eq_some_iff.1 hr
              cases hr
              cases hse : size X e with
              | none =>
                rw [hse] at hsz
                exact absurd rfl hsz
              | some sz =>
                refine op_build hX h ht ho hz hu (.inr ⟨n, e, rfl, by rw [hse]; rfl⟩) (fun i x hx => ?_) hcs ⟨z, rfl⟩
                simp only [hse] at hx ⊢
                cases hx
                exact ⟨sz, rfl, rfl⟩
        | _ => simp at hr
    | _ => cases hr
  case h_7 t len parts ho =>
    obtain ⟨d, hu, hr⟩ := Option.bind_eq_some_iff.1 hr
    cases d with
    | slice e =>
      simp only at hr
      obtain ⟨n, hn, hr⟩ := Option.bind_eq_some_iff.1 hr
      obtain ⟨z, hz, hr⟩ := Option.bind_eq_some_iff.1 hr
      split at hr
      · cases hr
      · rename_i hc
        simp only [Bool.not_eq_true', Bool.and_eq_true, decide_eq_true_eq, Bool.not_eq_false] at hc
        obtain ⟨cs, hcs, hr⟩ := Option.bind_eq_some_iff.1 hr
        obtain ⟨k1, k2⟩ := op_buildSlice hX h ht ho hu hn hz hc.1.1.1 hc.1.1.2 hc.1.2 hc.2 hcs hb
        split at hr
        · rename_i h0; cases hr; exact k1 h0
        · rename_i h0; cases hr; exact k2 h0
    | _ => cases hr
  case h_8 t m k v ho => exact op_update hX h ht (.inr ho) hr
  case h_9 t m k v ho => exact op_update hX h ht (.inl ho) hr
  case h_10 t p ho =>
    obtain ⟨⟨cs, rd⟩, hp, hr⟩ := Option.bind_eq_some_iff.1 hr
    obtain ⟨ag, hag, hr⟩ := Option.bind_eq_some_iff.1 hr
    obtain ⟨n, hn, hr⟩ := Option.bind_eq_some_iff.1 hr
    obtain ⟨v, hv, hr⟩ := Option.bind_eq_some_iff.1 hr
    cases hr
    exact op_load hX h ht ho hp hag hn hv
  case h_11 t p v ho =>
    obtain ⟨n, hn, hr⟩ := Option.bind_eq_some_iff.1 hr
    split at hr
    · rename_i hc
      exact op_store hX h ht ho hn hc hr
    · cases hr
  case h_12 x ho =>
    split at hr
    · rename_i hx; cases hr; exact op_nilCheck hX h ht ho hx (.inl ⟨_, _, _, rfl⟩)
    · rename_i hx; cases hr; exact op_nilCheck hX h ht ho hx (.inr (.inl ⟨_, rfl⟩))
    · rename_i hx; cases hr; exact op_nilCheck hX h ht ho hx (.inr (.inr ⟨_, _, _, rfl⟩))
    · cases hr
  case h_13 op t x y _ ho =>
    obtain ⟨v, hv, rfl⟩ := Option.map_eq_some_iff.1 hr
    exact op_bin hX h ht ho hv
  case h_14 op t x ho =>
    obtain ⟨v, hv, rfl⟩ := Option.map_eq_some_iff.1 hr
    exact op_un hX h ht ho hv
  case h_15 s d x ho => exact op_convert hX h ht ho hb hr
  case h_16 t x ho =>
    split at hr
    · cases hr
    · cases hr
    · rename_i d hd hu
      cases hr
      exact op_iface hX h ht ho hu (fun ms e => hd ms (by rw [e]))
  case h_17 fn first caps ho =>
    cases hr
    exact op_func hX h ht ho
  case h_18 t rs ho =>
    split at hr
    · rename_i hu hrs; cases hr; exact op_makeMap hX h ht ho hu (.inl hrs) hb
    · rename_i hu hrs; cases hr; exact op_makeMap hX h ht ho hu (.inr ⟨_, _, hrs⟩) hb
    · cases hr
  case h_19 t len cap ho =>
    obtain ⟨d, hu, hr⟩ := Option.bind_eq_some_iff.1 hr
    cases d with
    | slice e =>
      simp only at hr
      obtain ⟨n, hn, hr⟩ := Option.bind_eq_some_iff.1 hr
      obtain ⟨by', hby, hr⟩ := Option.bind_eq_some_iff.1 hr
      obtain ⟨z, hz, hr⟩ := Option.bind_eq_some_iff.1 hr
      obtain ⟨l, hl, hr⟩ := Option.bind_eq_some_iff.1 hr
      obtain ⟨c, hc, hr⟩ := Option.bind_eq_some_iff.1 hr
      split at hr
      · rename_i hcc
        simp only [Bool.and_eq_true, decide_eq_true_eq] at hcc
        obtain ⟨⟨⟨⟨⟨⟨c1, c2⟩, c3⟩, c4⟩, c5⟩, c6⟩, c7⟩ := hcc
        obtain ⟨k1, k2⟩ := op_makeSlice hX h ht ho hu hn hby hz hl hc c1 c2 c3 c4 c5 c6 c7 hb
        split at hr
        · rename_i h0; cases hr; exact k1 h0
        · rename_i h0; cases hr; exact k2 h0
      · cases hr
    | _ => cases hr
  case h_20 t x lo hi mx ho =>
    obtain ⟨h1, h2⟩ := op_slice hX h ht ho hr
    rw [h1]; exact h2
  case h_21 t x f ho =>
    obtain ⟨h1, h2⟩ := op_fieldAddr hX h ht ho hr
    rw [h1]; exact h2
  case h_22 t x f ho =>
    obtain ⟨fd, hfd, hr⟩ := Option.bind_eq_some_iff.1 hr
    unfold fieldOf at hfd
    obtain ⟨d, hu, hfd⟩ := Option.bind_eq_some_iff.1 hfd
    split at hfd
    · split at hr
      · rename_i cs hx
        obtain ⟨v, hv, hr⟩ := Option.bind_eq_some_iff.1 hr
        cases hr
        exact op_field hX h ht ho hu hfd hx hv
      · cases hr
    · cases hfd
  case h_23 t x ix ho =>
    obtain ⟨h1, h2⟩ := op_indexAddr hX h ht ho hr
    rw [h1]; exact h2
  case h_24 t x ix ho =>
    obtain ⟨i, hi, hr⟩ := Option.bind_eq_some_iff.1 hr
    obtain ⟨d, hu, hr⟩ := Option.bind_eq_some_iff.1 hr
    obtain ⟨k1, k2⟩ := op_index hX h ht ho hi hu
    split at hr
    · rename_i n e cs hx
      split at hr
      · rename_i hc
        simp only [Bool.and_eq_true, decide_eq_true_eq] at hc
        obtain ⟨sz, hsz, hr⟩ := Option.bind_eq_some_iff.1 hr
        obtain ⟨v, hv, hr⟩ := Option.bind_eq_some_iff.1 hr
        cases hr
        exact k1 _ _ _ _ _ rfl hx hc.1 hc.2 hsz hv
      · cases hr
    · rename_i s hx
      split at hr
      · rename_i hc
        obtain ⟨b, hb', rfl⟩ := Option.map_eq_some_iff.1 hr
        exact k2 _ _ rfl hx hc hb'
      · cases hr
    · cases hr
  case h_25 t x ix ok ho =>
    obtain ⟨h1, h2⟩ := op_lookup hX h ht ho hr
    rw [h1]; exact h2
  case h_26 t x ho =>
    split at hr
    · rename_i hu hx; cases hr; exact op_range hX h ht ho hu hx hb
    · rename_i hu hx
      split at hr
      · rename_i es hm; cases hr; exact op_rangeMap hX h ht ho hu hx hm hb
      · cases hr
    · rename_i hu hx; cases hr; exact op_rangeNil hX h ht ho hu hx hb
    · cases hr
  case h_27 it ho => exact op_next hX h ht ho hr
  case h_28 it ho => exact op_nextMap hX h ht ho hr
  case h_29 it ho => exact op_entry hX h ht ho hr
  case h_30 x xt t ok ho =>
    obtain ⟨h1, h2⟩ := op_assert hX h ht ho hr
    rw [h1]; exact h2
  case h_31 t i ho =>
    split at hr
    · rename_i vs hv
      obtain ⟨v, hi, rfl⟩ := Option.map_eq_some_iff.1 hr
      exact op_extract hX h ht ho hv hi
    · cases hr
  case h_32 c ho =>
    split at hr
    · rename_i b hc
      exact op_builtin hX h ht ho hc hb hr
    · rename_i f hc
      split at hr
      · rename_i g first caps hv
        exact op_callValue hX hC h ht ho hc hf hv hr
      · rename_i name rr first caps hv
        split at hr
        · rename_i t v
          split at hr
          · rename_i g recv hm
            exact op_callMethodValue hX hC h ht ho hc hf hv hm hr
          · cases hr
        · cases hr
      · rename_i b hv
        exact absurd hv (hny c f b ho hc)
      · cases hr
    · rename_i x name hc
      split at hr
      · rename_i t v hv
        split at hr
        · rename_i g recv hm
          exact op_callInvoke hX hC h ht ho hc hf hv hm hr
        · cases hr
      · cases hr
  case h_33 => cases hr
end
end Go.Ev
/- Operations, in the fence's words: in a round of a loop over a function, or in none. -/
set_option linter.unusedSectionVars false
set_option linter.unusedSimpArgs false
set_option linter.unusedVariables false
namespace Go.Ev
open Go
theorem callsIn_FR {r : Option Nat} {n : Nat} {P : Program} {f : FuncId} {args : Array Value} {w : World} {R : Ending → World → Prop} (h : Calls P f args w R) : CallsIn (FR r) n P f args w R :=
  (callsIn_wide (n := n)).2 h
theorem calls_FR {r : Option Nat} {n : Nat} {P : Program} {f : FuncId} {args : Array Value} {w : World} {R : Ending → World → Prop} (h : CallsIn (FR r) n P f args w R) : Calls P f args w R :=
  (callsIn_wide (n := n)).1 h
theorem rowsIn_FR {r : Option Nat} {n : Nat} {P : Program} {row : String} {args : Array Value} {w : World} {R : Value → World → Prop} (h : Rows P row args w R) : RowsIn (FR r) n P row args w R :=
  fun c cs _ => let ⟨v, w', hr, hs⟩ := h c cs; ⟨v, w', hr, stepsIn_wide.2 hs⟩

/-- What an operation comes to, wherever it stands. -/
def StepIn (P : Program) (o : Oper) (a : Act) (w : World) (Post : Value → World → Prop) : Prop :=
  ∀ (r : Option Nat) (n : Nat) (K : Act → World → Prop) (Q : Exit → Act → World → Prop), (∀ c w', Post c w' → K (a.put o.dst c) w') → o.wpIn (FR r) n P a w K Q
theorem StepTo.toIn {P : Program} {o : Oper} {a : Act} {w : World} {Post : Value → World → Prop} (h : StepTo P o a w Post) (hd : ∀ c, o.op ≠ .defer c) : StepIn P o a w Post := by
  intro r n K Q hK
  have h1 := h K (fun _ _ _ => False) hK
  refine ⟨fun _ _ => trivial, ?_⟩
  rw [Oper.semAt_eq _ _ _ hd]
  unfold Oper.wp at h1
  revert h1
  generalize (execOp a.eval o).run P w = res
  intro h1
  have hdep : ∀ (p : Prop), (FR r).depth.isSome = true → p := fun p hp => by simp [FR, Fence.wide] at hp
  cases res with
  | ok x w' =>
    cases x with
    | value v => exact h1
    | skip => exact h1
    | defer d => exact h1
    | enter f args =>
      refine ⟨hdep _, ?_⟩
      rw [Oper.upon_enter] at h1
      refine callsIn_FR (Calls.mono h1 fun e w'' he => ?_)
      cases e with
      | returned v => exact he
      | panicked chain => exact he.elim
      | outgrown => obtain ⟨_, _, hf⟩ := he; exact hf.elim
    | row row args => exact ⟨hdep _, rowsIn_FR h1⟩
    | _ => exact h1.elim
  | halt x w' => cases x <;> exact h1.elim

/-- One operation, if it is wanted. -/
def wpOpIn (r : Option Nat) (n : Nat) (P : Program) (ops : Array Oper) (Q : Exit → Act → World → Prop) (i : Nat) (K : Act → World → Prop) (a : Act) (w : World) : Prop :=
  match ops[i]? with
  | none => K a w
  | some o => if Region.wanted o (yielded ops a.tmps) then o.wpIn (FR r) n P a w K Q else K (a.put o.dst undef) w
section
variable {r : Option Nat} {n : Nat} {P : Program} {ops : Array Oper} {Q : Exit → Act → World → Prop} {md : Region.Mode}
theorem wpOpsIn_cons {i : Nat} {rest : List Nat} {a : Act} {w : World} (h : wpOpIn r n P ops Q i (wpOpsIn (FR r) n P ops Q rest) a w) : wpOpsIn (FR r) n P ops Q (i :: rest) a w := by
  unfold wpOpIn at h
  unfold wpOpsIn
  cases ho : ops[i]? with
  | none => rw [ho] at h; exact h
  | some o =>
    rw [ho] at h
    simp only at h ⊢
    split
    · rename_i hw; rw [if_pos hw] at h; exact h
    · rename_i hw; rw [if_neg hw] at h; exact ⟨fun _ _ => trivial, h⟩
theorem wpIn_op_mono {o : Oper} {a : Act} {w : World} {K K' : Act → World → Prop} (h : ∀ a w, K a w → K' a w) (hh : o.wpIn (FR r) n P a w K Q) : o.wpIn (FR r) n P a w K' Q := by
  refine ⟨hh.1, ?_⟩
  have h2 := hh.2
  revert h2
  generalize (o.semAt (FR r).round a.eval).run P w = res
  intro h2
  cases res with
  | ok x w' =>
    cases x <;> simp only [Oper.uponIn] at h2 ⊢ <;>
      first
        | exact h _ _ h2
        | exact ⟨h2.1, h2.2.mono fun e w'' he => by cases e <;> first | exact h _ _ he | exact he⟩
        | exact ⟨h2.1, h2.2.mono fun _ _ he => h _ _ he⟩
  | halt x w' => cases x <;> simp only [Oper.uponIn] at h2 ⊢ <;> exact h2
theorem wpOpIn_mono {i : Nat} {a : Act} {w : World} {K K' : Act → World → Prop} (h : ∀ a w, K a w → K' a w) (hh : wpOpIn r n P ops Q i K a w) : wpOpIn r n P ops Q i K' a w := by
  unfold wpOpIn at *
  cases ho : ops[i]? with
  | none => rw [ho] at hh; exact h _ _ hh
  | some o =>
    rw [ho] at hh
    simp only at hh ⊢
    split
    · rename_i hw; rw [if_pos hw] at hh; exact wpIn_op_mono h hh
    · rename_i hw; rw [if_neg hw] at hh; exact h _ _ hh
def wpAnyIn (r : Option Nat) (n : Nat) (P : Program) (md : Region.Mode) (ops : Array Oper) (Q : Exit → Act → World → Prop) : Nat → Array Bool → Act → World → Prop
  | 0, listed, a, w => Region.ready md ops listed = [] ∧ Q .normal a w
  | fuel + 1, listed, a, w =>
    (Region.ready md ops listed = [] → Q .normal a w) ∧
    ∀ i ∈ Region.ready md ops listed, wpOpIn r n P ops Q i (wpAnyIn r n P md ops Q fuel (listed.setIfInBounds i true)) a w
theorem wpAnyIn_sound : ∀ (fuel t : Nat) (listed : Array Bool) (a : Act) (w : World), wpAnyIn r n P md ops Q fuel listed a w →
    wpOpsIn (FR r) n P ops Q (Region.linearise.go md ops fuel t listed []) a w := by
  intro fuel
  induction fuel with
  | zero => intro t listed a w h; simpa [Region.linearise.go, wpOpsIn] using h.2
  | succ fuel ih =>
    intro t listed a w h
    obtain ⟨h₀, h₁⟩ := h
    simp only [Region.linearise.go]
    change wpOpsIn (FR r) n P ops Q (match (Region.ready md ops listed)[t % (Region.ready md ops listed).length]? with
      | some i => Region.linearise.go md ops fuel (t / (Region.ready md ops listed).length) (listed.setIfInBounds i true) [i]
      | none => [].reverse) a w
    cases hi : (Region.ready md ops listed)[t % (Region.ready md ops listed).length]? with
    | none =>
      have hnil : Region.ready md ops listed = [] := by
        cases hr : Region.ready md ops listed with
        | nil => rfl
        | cons x xs =>
          rw [hr] at hi
          have hlt : t % (x :: xs).length < (x :: xs).length := Nat.mod_lt _ (by simp)
          simp at hi
          simp at hlt
          omega
      simpa [wpOpsIn] using h₀ hnil
    | some i =>
      simp only []
      rw [linearise_go_acc, List.reverse_singleton, List.singleton_append]
      exact wpOpsIn_cons (wpOpIn_mono (fun a w => ih _ _ a w) (h₁ i (List.mem_of_getElem? hi)))
theorem wpIn_region_any {id : Nat} {a : Act} {w : World} (hm : P.follows .mixedOrders = true)
    (h : wpAnyIn r n P .any ops Q ops.size (Array.replicate ops.size false) a { w with drawn := w.drawn + 1 }) : (Code.region id ops true).wpIn (FR r) n P Q a w :=
  wpIn_region_draw fun t => by
    simp only [Region.schedule, hm, Bool.true_or, if_true]
    exact wpAnyIn_sound ops.size t _ a _ h
end
section
variable {X : Ctx} {B : Mem} {w : World} {M : Mem} {ρ : Rho} {H : Heap} {tm : List V} {a : Act} {o : Oper} {r : Res}
theorem evOp_noDefer {call : CallFn} {fresh : Nat → Nat} (hr : evOp X call o fresh tm H = some r) : ∀ c, o.op ≠ .defer c := by
  intro c ho
  unfold evOp evOpR at hr
  rw [ho] at hr
  cases hr
theorem op_yield {call : CallFn} (hX : CtxOK X B) (hC : CallsOK X.P B call) (h : HRel B w M ρ H) (ht : LRel M ρ tm a.tmps.toList) {c : Call} (ho : o.op = .call c) {f : Operand} (hc : c.callee = .value f)
    {fresh : Nat → Nat} (hf : Fresh H fresh) {b : Nat} (hv : opd X tm f = .yield b) (hr : callP false call yieldId (.yield b :: c.args.toList.map (opd X tm)) fresh H = some r) : StepIn X.P o a w (OpPost B w M ρ H r.v (putAll H r.wr)) := by
  have hfv := opd_rel hX h ht f
  rw [hv] at hfv
  have hfv0 := hfv
  unfold VRel at hfv
  obtain ⟨p, _, _, he⟩ := hfv
  have ha : LRel M ρ (.yield b :: c.args.toList.map (opd X tm)) (#[a.eval f] ++ c.args.map a.eval).toList := by
    simp only [Array.toList_append, Array.toList_map]
    show LRel M ρ _ (a.eval f :: c.args.toList.map a.eval)
    unfold LRel
    exact ⟨_, _, rfl, hfv0, opd_list hX h ht c.args.toList⟩
  obtain ⟨M1, ρs, as', Hs, v, H', k1, k2, k3, k4⟩ := call_core h ha hf hr
  have hok := (hC _ _ _ _ _ k3).2 rfl
  intro ro n K Q hK
  refine ⟨fun _ _ => trivial, ?_⟩
  rw [Oper.semAt_eq _ _ _ (fun c' => by rw [ho]; simp)]
  obtain ⟨l, ys, hys, fn, tmps, assign, body, hy, hR⟩ := hok w M1 ρs _ k1 k2 (n - 1)
  have e1 : a.eval f = .func (.yield l) #[] #[] ∧ c.args.map a.eval = ys := by
    have := congrArg Array.toList hys
    simp only [Array.toList_append, List.cons_append, List.nil_append, List.cons.injEq] at this
    exact ⟨this.1, by rw [← Array.toList_inj]; exact this.2⟩
  have hrun : (execOp a.eval o).run X.P w = .ok (.round l fn tmps assign body) w := by
    rw [← hy, ← e1.2]
    simp only [execOp, ho, Go.resolve, hc, e1.1, Deferred.ofValue]
    simp only [Sem.run_bind, Sem.run_pure, Result.andThen_ok, invoke]
    congr 1
    simp
  rw [hrun]
  refine ⟨fun hp => by simp [FR, Fence.wide] at hp, ?_⟩
  refine RoundIn.mono (show RoundIn (FR ro) (n - 1) X.P l fn tmps assign body w _ from hR) fun e w' he => ?_
  obtain ⟨c', M', ρ', rfl, g1, g2, g3, g4⟩ := he
  exact hK c' w' (k4 c' w' M' ρ' g1 g2 g3 g4)
theorem evOp_soundIn {call : CallFn} (hX : CtxOK X B) (hC : CallsOK X.P B call) (h : HRel B w M ρ H) (ht : LRel M ρ tm a.tmps.toList) {fresh : Nat → Nat} (hf : Fresh H fresh)
    (hr : evOp X call o fresh tm H = some r) : StepIn X.P o a w (OpPost B w M ρ H r.v (putAll H r.wr)) := by
  by_cases hy : ∃ c f b, o.op = .call c ∧ c.callee = .value f ∧ opd X tm f = .yield b
  · obtain ⟨c, f, b, ho, hc, hv⟩ := hy
    have hr' := hr
    unfold evOp evOpR at hr'
    rw [ho] at hr'
    simp only [hc, hv] at hr'
    exact op_yield hX hC h ht ho hc hf hv hr'
  · refine (evOp_sound hX hC h ht hf hr fun c f b ho hc hv => hy ⟨c, f, b, ho, hc, hv⟩).toIn (evOp_noDefer hr)
end
end Go.Ev
/- One operation behind the other. -/
set_option linter.unusedSectionVars false
set_option linter.unusedSimpArgs false
set_option linter.unusedVariables false
namespace Go.Ev
open Go

/-- The marks that loops over functions have left among a frame's deferred calls. -/
def mkMark (D : Nat) : Deferred := { target := .collected D, args := #[] }
def Marks (n0 : Nat) (w : World) (ds : List Deferred) : Prop :=
  ∃ Ds : List Nat, ds = Ds.map mkMark ∧ Ds.Nodup ∧ ∀ D ∈ Ds, n0 ≤ D ∧ w.heap[D]? = some (.deferred (some []))
theorem Marks.nil (n0 : Nat) (w : World) : Marks n0 w [] := ⟨[], rfl, List.nodup_nil, by simp⟩
theorem not_own {B : Mem} {w : World} {M : Mem} {ρ : Rho} {H : Heap} (h : HRel B w M ρ H) {D : Nat} {l : Option (List Deferred)} (hD : w.heap[D]? = some (.deferred l)) :
    (∀ a : Addr, a.block = D → ¬ Own ρ H a) ∧ ¬ OwnObj ρ H D := by
  refine ⟨fun a ha ⟨b, ho⟩ => ?_, fun ⟨b, ho⟩ => ?_⟩
  · obtain ⟨cs, ver, p, j, hb, hp, hj, rfl⟩ := ho
    obtain ⟨_, _, _, hr⟩ := h.rel b _ p hb hp
    obtain ⟨x, hx, _⟩ := hr j hj
    simp only at ha
    unfold World.cell? at hx
    simp only [ha, hD] at hx
    cases hx
  · obtain ⟨x, p, hb, hx, hp, rfl⟩ := ho
    have hr := h.rel b x p hb hp
    cases x with
    | row => simp [Blk.isObj] at hx
    | map es => obtain ⟨_, ces, clock, hb, _⟩ := hr; rw [hD] at hb; cases hb
    | iter s pos => obtain ⟨_, bs, hb, _⟩ := hr; rw [hD] at hb; cases hb
    | loop => obtain ⟨_, q, hb, _⟩ := hr; rw [hD] at hb; cases hb
    | miter => obtain ⟨_, q, hb, _⟩ := hr; rw [hD] at hb; cases hb
theorem heap_lt {w : World} {D : Nat} {o : Obj} (h : w.heap[D]? = some o) : D < w.heap.size := by
  rcases Nat.lt_or_ge D w.heap.size with h1 | h1
  · exact h1
  · rw [Array.getElem?_eq_none h1] at h; cases h
theorem Marks.kept {B : Mem} {w w' : World} {M : Mem} {ρ : Rho} {H : Heap} {n0 : Nat} {ds : List Deferred} (h : HRel B w M ρ H) (k : Kept (Own ρ H) (OwnObj ρ H) w w') (m : Marks n0 w ds) : Marks n0 w' ds := by
  obtain ⟨Ds, rfl, hn, hD⟩ := m
  refine ⟨Ds, rfl, hn, fun D hm => ⟨(hD D hm).1, ?_⟩⟩
  obtain ⟨g1, g2⟩ := not_own h (hD D hm).2
  rw [k.blk D (heap_lt (hD D hm).2) g1 g2]
  exact (hD D hm).2

/-- A state of the evaluator, said of an activation and a world; since when; blocks that keep their numbers. -/
def At (B : Mem) (w0 : World) (M0 : Mem) (ρ0 : Rho) (H0 : Heap) (pins : Nat) (st : St) (a : Act) (w : World) : Prop :=
  ∃ M ρ, HRel B w M ρ st.H ∧ LRel M ρ st.tm a.tmps.toList ∧ Marks w0.heap.size w a.defers ∧ Evo w0 M0 ρ0 H0 w M ρ st.H ∧ ∀ j, j < pins → ∀ p, ρ0 j = some p → ∃ p', ρ j = some p' ∧ p.ext p'

section
variable {X : Ctx} {B : Mem} {w0 : World} {M0 : Mem} {ρ0 : Rho} {H0 : Heap} {pins : Nat} {Q : Exit → Act → World → Prop} {ro : Option Nat} {nd : Nat}

theorem putTm_rel {M : Mem} {ρ : Rho} {tm : List V} {a : Act} (h : LRel M ρ tm a.tmps.toList) {v : V} {c : Value} (hv : VRel M ρ v c) (d : Option Nat) : LRel M ρ (putTm tm d v) (a.put d c).tmps.toList := by
  cases d with
  | none => exact h
  | some d =>
    show LRel M ρ (tm.set d v) (a.tmps.setIfInBounds d c).toList
    rw [Array.toList_setIfInBounds]
    exact h.set d hv
theorem put_defers (a : Act) (d : Option Tmp) (c : Value) : (a.put d c).defers = a.defers := by cases d <;> rfl

theorem wanted_rel {M : Mem} {ρ : Rho} {tm : List V} {a : Act} (h : LRel M ρ tm a.tmps.toList) {ops : Array Oper} {o : Oper} {b : Bool} (hw : wantedV ops o tm = some b) : Region.wanted o (yielded ops a.tmps) = b := by
  unfold wantedV at hw
  unfold Region.wanted
  cases hg : o.guard with
  | none => rw [hg] at hw; cases hw; rfl
  | some gw =>
    obtain ⟨j, want⟩ := gw
    rw [hg] at hw
    simp only at hw ⊢
    unfold yielded
    cases hd : (ops[j]?).bind (·.dst) with
    | none => rw [hd] at hw; cases hw
    | some d =>
      rw [hd] at hw
      simp only at hw
      split at hw
      · rename_i b' hb
        cases hw
        obtain ⟨x, hx, hr⟩ := h.get hb
        unfold VRel at hr
        subst hr
        rw [Array.getElem?_toList] at hx
        simp only [Option.bind_some, hx]
        cases b' <;> cases want <;> rfl
      · rename_i hb
        cases hw
        obtain ⟨x, hx, hr⟩ := h.get hb
        unfold VRel at hr
        obtain ⟨xs, rfl, _⟩ := hr
        rw [Array.getElem?_toList] at hx
        simp only [Option.bind_some, hx]
        rfl
      · cases hw

theorem evStep_sound {call : CallFn} (hX : CtxOK X B) (hC : CallsOK X.P B call) {ops : Array Oper} {fresh : Nat → Nat → Nat} {i : Nat} {st st' : St} {rd wr : List Nat}
    (hs : evStep X call ops fresh i st = some (st', rd, wr)) (hf : Fresh st.H (fresh i)) {a : Act} {w : World} (h : At B w0 M0 ρ0 H0 pins st a w) {K : Act → World → Prop}
    (hK : ∀ a' w', At B w0 M0 ρ0 H0 pins st' a' w' → K a' w') : wpOpIn ro nd X.P ops Q i K a w := by
  obtain ⟨M, ρ, h1, h2, h3, h4, h5⟩ := h
  unfold evStep at hs
  unfold wpOpIn
  cases ho : ops[i]? with
  | none => rw [ho] at hs; cases hs
  | some o =>
    rw [ho] at hs
    simp only at hs ⊢
    cases hw : wantedV ops o st.tm with
    | none => rw [hw] at hs; cases hs
    | some b =>
      rw [hw] at hs
      rw [wanted_rel h2 hw]
      cases b with
      | true =>
        simp only [if_true] at hs ⊢
        cases hev : evOp X call o (fresh i) st.tm st.H with
        | none => rw [hev] at hs; cases hs
        | some r =>
          rw [hev] at hs
          cases hs
          refine evOp_soundIn hX hC h1 h2 hf hev ro nd K Q fun c w' hp => ?_
          obtain ⟨M', ρ', g1, g2, g3, g4⟩ := hp
          refine hK _ _ ⟨M', ρ', g1, putTm_rel (LRel.mono g3.mem g4 _ _ h2) g2 _, by rw [put_defers]; exact h3.kept h1 g3.kept, h4.trans g3, fun j hj p hp => ?_⟩
          obtain ⟨p1, q1, q2⟩ := h5 j hj p hp
          obtain ⟨p2, q3, q4⟩ := g4 j p1 q1
          exact ⟨p2, q3, Pl.ext_trans q2 q4⟩
      | false =>
        simp only at hs
        cases hs
        rw [if_neg (by simp)]
        exact hK _ _ ⟨M, ρ, h1, putTm_rel h2 (by unfold VRel; exact ⟨#[], rfl, by unfold LRel; rfl⟩) _, by rw [put_defers]; exact h3, h4, h5⟩

theorem fresh_seq (H : Heap) : Fresh H (fun k => H.length + k) := ⟨fun k => Heap.get_none_of_le _ _ (by show H.length ≤ H.length + k; omega), fun i j h => by have h : H.length + i = H.length + j := h; omega⟩

theorem evSeq_sound {call : CallFn} (hX : CtxOK X B) (hC : CallsOK X.P B call) {ops : Array Oper} : ∀ (n i : Nat) (st st' : St), evSeq X call ops n i st = some st' →
    ∀ {a : Act} {w : World}, At B w0 M0 ρ0 H0 pins st a w → (∀ a' w', At B w0 M0 ρ0 H0 pins st' a' w' → Q .normal a' w') → wpOpsIn (FR ro) nd X.P ops Q (List.range' i n) a w
  | 0, i, st, st', hs, a, w, h, hQ => by
    cases hs
    exact hQ a w h
  | n + 1, i, st, st', hs, a, w, h, hQ => by
    unfold evSeq at hs
    split at hs
    · rename_i st1 _ hst
      rw [List.range'_succ]
      refine wpOpsIn_cons ?_
      exact evStep_sound hX hC hst (fresh_seq st.H) h fun a' w' h' => evSeq_sound hX hC n (i + 1) st1 st' hs h' hQ
    · cases hs
end
end Go.Ev
