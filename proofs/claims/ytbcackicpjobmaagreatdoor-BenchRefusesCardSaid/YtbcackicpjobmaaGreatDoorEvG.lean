/- A part of the proof of BenchRefuses: no statement of the seat's stands here. -/
import Derived.RangeFuncRecord
import Derived.Test.YtbcackicpjobmaaGreatDoorEvF
set_option linter.unusedSectionVars false
set_option linter.unusedSimpArgs false
set_option linter.unusedVariables false
set_option linter.all false
/- Calls. -/
set_option linter.unusedSectionVars false
set_option linter.unusedSimpArgs false
set_option linter.unusedVariables false
namespace Go.Ev
open Go

/-- What a call answers, on every tape. -/
def CallOK (P : Program) (B : Mem) (f : FuncId) (args : List V) (H : Heap) (r : V) (H' : Heap) : Prop :=
  ∀ (w : World) (M : Mem) (ρ : Rho) (cargs : Array Value), HRel B w M ρ H → LRel M ρ args cargs.toList →
    Calls P f cargs w fun e w' => ∃ c M' ρ', e = .returned c ∧ HRel B w' M' ρ' H' ∧ VRel M' ρ' r c ∧ Evo w M ρ H w' M' ρ' H' ∧
      ∀ j, j < H.length → ∀ p, ρ j = some p → ∃ p', ρ' j = some p' ∧ p.ext p'
def Enters (P : Program) (f : FuncId) : Prop := ∃ fn, P.funcs[f]? = some fn ∧ (fn.name == "runtime.NumGoroutine") = false ∧ fn.body.isNone = false
/-- A fence about all; in a round or in none. -/
def FR (r : Option Nat) : Fence := { Fence.wide with round := r }
/-- What a round answers. -/
def RoundOK (P : Program) (B : Mem) (args : List V) (H : Heap) (r : V) (H' : Heap) : Prop :=
  ∀ (w : World) (M : Mem) (ρ : Rho) (cargs : Array Value), HRel B w M ρ H → LRel M ρ args cargs.toList → ∀ n : Nat,
    ∃ (l : Nat) (ys : Array Value), cargs = #[.func (.yield l) #[] #[]] ++ ys ∧ ∃ fn tmps assign body, (Instr.yield l ys).run P w = .ok (.round l fn tmps assign body) w ∧
      RoundIn (FR none) n P l fn tmps assign body w fun e w' => ∃ c M' ρ', e = .returned c ∧ HRel B w' M' ρ' H' ∧ VRel M' ρ' r c ∧ Evo w M ρ H w' M' ρ' H' ∧
        ∀ j, j < H.length → ∀ p, ρ j = some p → ∃ p', ρ' j = some p' ∧ p.ext p'
def CallsOK (P : Program) (B : Mem) (call : CallFn) : Prop := ∀ f args H r H', call f args H = some (r, H') → (f ≠ yieldId → Enters P f ∧ CallOK P B f args H r H') ∧ (f = yieldId → RoundOK P B args H r H')

section
variable {X : Ctx} {B : Mem} {w : World} {M : Mem} {ρ : Rho} {H : Heap} {tm : List V} {a : Act} {o : Oper} {r : Res}

theorem HRel.congr {H' : Heap} (h : HRel B w M ρ H) (e : ∀ b, H'.get b = H.get b) : HRel B w M ρ H' := by
  have ow : ∀ b a, OwnB ρ H' b a → OwnB ρ H b a := by
    rintro b a ⟨cs, ver, p, j, h1, h2⟩
    exact ⟨cs, ver, p, j, by rw [← e]; exact h1, h2⟩
  have ob : ∀ b a, ObjB ρ H' b a → ObjB ρ H b a := by
    rintro b a ⟨x, p, h1, h2⟩
    exact ⟨x, p, by rw [← e]; exact h1, h2⟩
  exact ⟨h.base, h.mem, fun b => by rw [e]; exact h.dom b, fun b x p h1 h2 => h.rel b x p (by rw [← e]; exact h1) h2, fun b b' a h1 h2 => h.sep b b' a (ow _ _ h1) (ow _ _ h2), fun b b' r h1 h2 => h.sepo b b' r (ob _ _ h1) (ob _ _ h2), h.shp, h.off0⟩
theorem Own.congr {H' : Heap} (e : ∀ b, H'.get b = H.get b) {a : Addr} (h : Own ρ H' a) : Own ρ H a := by
  obtain ⟨b, cs, ver, p, j, h1, h2⟩ := h
  exact ⟨b, cs, ver, p, j, by rw [← e]; exact h1, h2⟩
theorem OwnObj.congr {H' : Heap} (e : ∀ b, H'.get b = H.get b) {a : Nat} (h : OwnObj ρ H' a) : OwnObj ρ H a := by
  obtain ⟨b, x, p, h1, h2⟩ := h
  exact ⟨b, x, p, by rw [← e]; exact h1, h2⟩
theorem Evo.congr {w' : World} {M' : Mem} {ρ' : Rho} {H' H'' : Heap} (h : Evo w M ρ H w' M' ρ' H') (e : ∀ b, H''.get b = H'.get b) : Evo w M ρ H w' M' ρ' H'' :=
  ⟨h.kept, h.mem, h.memnew, fun a ha => h.own a (Own.congr e ha), fun r hr => h.obj r (OwnObj.congr e hr)⟩

/-- A row is closed. -/
theorem HRel.freeze1 (h : HRel B w M ρ H) (b : Nat) : ∃ M', HRel B w M' ρ (freezeRow H b) ∧ Evo w M ρ H w M' ρ (freezeRow H b) := by
  unfold freezeRow
  cases hb : H.get b with
  | none => exact ⟨M, h, Evo.refl _ _ _ _⟩
  | some x =>
    cases x with
    | map es => exact ⟨M, h, Evo.refl _ _ _ _⟩
    | iter s p => exact ⟨M, h, Evo.refl _ _ _ _⟩
    | loop => exact ⟨M, h, Evo.refl _ _ _ _⟩
    | miter => exact ⟨M, h, Evo.refl _ _ _ _⟩
    | row cs mu ver =>
      cases mu with
      | false =>
        have e : ∀ c, (H.put b (some (.row cs false ver))).get c = H.get c := fun c => by
          by_cases ec : c = b
          · subst ec; rw [Heap.get_put_same, hb]
          · rw [Heap.get_put_other _ _ _ _ ec]
        exact ⟨M, h.congr e, (Evo.refl _ _ _ _).congr e⟩
      | true =>
        obtain ⟨p, hp, hbr⟩ := h.place hb
        obtain ⟨hv, hf, hl, hr⟩ := hbr
        classical
        let M' : Mem := fun a => if OwnB ρ H b a then w.cell? a else M a
        have hM' : ∀ a, OwnB ρ H b a → M' a = w.cell? a := fun a ha => by simp only [M', ha, if_true]
        have hM'n : ∀ a, ¬ OwnB ρ H b a → M' a = M a := fun a ha => by simp only [M', ha, if_false]
        have hle : M.le M' := fun a x hx => by
          by_cases ho : OwnB ρ H b a
          · have := (OwnB.lt h ho).2; rw [this] at hx; cases hx
          · rw [hM'n a ho]; exact hx
        have hget : ∀ c, c ≠ b → (H.put b (some (.row cs false ver))).get c = H.get c := fun c hc => Heap.get_put_other _ _ _ _ hc
        have hgetb : (H.put b (some (.row cs false ver))).get b = some (.row cs false ver) := Heap.get_put_same _ _ _
        have own' : ∀ c a, OwnB ρ (H.put b (some (.row cs false ver))) c a → c ≠ b ∧ OwnB ρ H c a := by
          rintro c a ⟨cs', ver', p', j, h1, h2⟩
          have hc : c ≠ b := fun e => by subst e; rw [hgetb] at h1; cases h1
          exact ⟨hc, cs', ver', p', j, by rw [← hget c hc]; exact h1, h2⟩
        have obj' : ∀ c a, ObjB ρ (H.put b (some (.row cs false ver))) c a → ObjB ρ H c a := by
          rintro c a ⟨x, p', h1, h2, h3⟩
          have hc : c ≠ b := fun e => by subst e; rw [hgetb] at h1; cases h1; simp [Blk.isObj] at h2
          exact ⟨x, p', by rw [← hget c hc]; exact h1, h2, h3⟩
        refine ⟨M', ⟨Mem.le_trans h.base hle, fun a x hx => ?_, fun c => ?_, fun c x q hc hq => ?_, fun c c' a h1 h2 => h.sep c c' a (own' _ _ h1).2 (own' _ _ h2).2, fun c c' r h1 h2 => h.sepo c c' r (obj' _ _ h1) (obj' _ _ h2), h.shp, h.off0⟩, ⟨Kept.refl _ _ _, hle, fun a x hx => ?_, fun a ⟨c, hc⟩ => .inl ⟨c, (own' _ _ hc).2⟩, fun r ⟨c, hc⟩ => .inl ⟨c, obj' _ _ hc⟩⟩⟩
        · by_cases ho : OwnB ρ H b a
          · rw [hM' a ho] at hx; exact hx
          · rw [hM'n a ho] at hx; exact h.mem a x hx
        · by_cases ec : c = b
          · subst ec; rw [hgetb, hp]; rfl
          · rw [hget c ec]; exact h.dom c
        · by_cases ec : c = b
          · subst ec
            rw [hgetb] at hc; cases hc
            rw [hp] at hq; cases hq
            refine ⟨hv, hf, hl, CRel.of_get fun j v hj => ?_⟩
            have hjl : j < cs.length := by
              rcases Nat.lt_or_ge j cs.length with h1 | h1
              · exact h1
              · rw [List.getElem?_eq_none h1] at hj; cases hj
            obtain ⟨x, hx, _, _, hrel⟩ := hr j (by omega)
            exact ⟨x, by rw [hM' _ ⟨cs, ver, p, j, hb, hp, by omega, rfl⟩]; exact hx, VRel.mono hle (Rho.le_refl _) _ _ (hrel v hj)⟩
          · rw [hget c ec] at hc
            refine (h.rel c x q hc hq).mono hle (Rho.le_refl _) (fun j hj => ?_) (fun _ => rfl)
            cases x with
            | row cs' mu' ver' =>
              cases mu' with
              | true =>
                refine .inl ⟨rfl, rfl, fun hm => ?_⟩
                rw [hM'n _ (fun ho => ec (h.sep _ _ _ ⟨cs', ver', q, j, hc, hq, hj, rfl⟩ ho))]
                exact hm
              | false => exact .inr trivial
            | map es => exact .inr trivial
            | iter s p => exact .inr trivial
            | loop => exact .inr trivial
            | miter => exact .inr trivial
        · by_cases ho : OwnB ρ H b a
          · exact .inr (.inl ⟨b, ho⟩)
          · rw [hM'n a ho] at hx; exact .inl hx

theorem HRel.freezeAll : ∀ (l : List Nat) {H : Heap} {M : Mem}, HRel B w M ρ H → ∃ M', HRel B w M' ρ (freezeRows H l) ∧ Evo w M ρ H w M' ρ (freezeRows H l)
  | [], H, M, h => ⟨M, h, Evo.refl _ _ _ _⟩
  | b :: l, H, M, h => by
    obtain ⟨M1, h1, e1⟩ := h.freeze1 b
    obtain ⟨M2, h2, e2⟩ := HRel.freezeAll l h1
    exact ⟨M2, h2, e1.trans e2⟩

theorem freezeRow_get (H : Heap) (b c : Nat) : (freezeRow H b).get c = if c = b then (match H.get b with | some (.row cs _ ver) => some (.row cs false ver) | x => x) else H.get c := by
  unfold freezeRow
  by_cases e : c = b
  · subst e
    rw [if_pos rfl]
    cases hb : H.get c with
    | none => exact hb
    | some x =>
      cases x with
      | row cs mu ver => exact Heap.get_put_same _ _ _
      | map es => exact hb
      | iter s p => exact hb
      | loop => exact hb
      | miter => exact hb
  · rw [if_neg e]
    cases hb : H.get b with
    | none => rfl
    | some x =>
      cases x with
      | row cs mu ver => exact Heap.get_put_other _ _ _ _ e
      | map es => rfl
      | iter s p => rfl
      | loop => rfl
      | miter => rfl
/-- Behind the closing, a row has the cells that it had. -/
theorem freezeRows_row : ∀ (l : List Nat) (H : Heap) (b : Nat) {cs : List V} {mu : Bool} {ver : Nat}, H.get b = some (.row cs mu ver) → ∃ mu', (freezeRows H l).get b = some (.row cs mu' ver) ∧ (b ∈ l → mu' = false)
  | [], H, b, cs, mu, ver, h => ⟨mu, h, by simp⟩
  | c :: l, H, b, cs, mu, ver, h => by
    have h1 := freezeRow_get H c b
    by_cases e : b = c
    · subst e
      rw [if_pos rfl, h] at h1
      obtain ⟨mu', h2, h3⟩ := freezeRows_row l (freezeRow H b) b h1
      refine ⟨mu', h2, fun _ => ?_⟩
      cases mu' with
      | false => rfl
      | true =>
        exfalso
        have : ∀ (l : List Nat) (H : Heap) (b : Nat) {cs : List V} {ver : Nat}, H.get b = some (.row cs false ver) → (freezeRows H l).get b = some (.row cs false ver) := by
          intro l
          induction l with
          | nil => intro H b cs ver h; exact h
          | cons d l ih =>
            intro H b cs ver h
            refine ih _ _ ?_
            rw [freezeRow_get]
            by_cases e : b = d
            · subst e; rw [if_pos rfl, h]
            · rw [if_neg e]; exact h
        have h1' : (freezeRow H b).get b = some (.row cs false ver) := h1
        rw [this l _ b h1'] at h2
        cases h2
    · rw [if_neg e] at h1
      obtain ⟨mu', h2, h3⟩ := freezeRows_row l (freezeRow H c) b (h1.trans h)
      refine ⟨mu', h2, fun hm => ?_⟩
      rcases List.mem_cons.1 hm with hm | hm
      · exact absurd hm e
      · exact h3 hm

/- slices of rows that are closed, as pure ones -/
mutual
theorem VRel.deep {f : V → V} {l : List Nat} (hf : ∀ b ver o sz len c, b ∈ l → VRel M ρ (.msl b ver o sz len) c → VRel M ρ (f (.msl b ver o sz len)) c) :
    ∀ (v : V) (c : Value), (∀ b ∈ v.msls, b ∈ l) → VRel M ρ v c → VRel M ρ (v.deep f) c
  | .iptr cs, c, hm, h => by
    unfold V.deep
    unfold VRel at h ⊢
    obtain ⟨a, h1, h2, h3⟩ := h
    exact ⟨a, h1, h2, CRel.deep hf cs _ _ (by unfold V.msls at hm; exact hm) h3⟩
  | .sl sz len cs, c, hm, h => by
    unfold V.deep
    unfold VRel at h ⊢
    obtain ⟨a, cap, h1, h2, h3, h4, h5⟩ := h
    exact ⟨a, cap, h1, h2, by rw [deepL_length]; exact h3, h4, h5.imp id fun h => ⟨h.1, CRel.deep hf cs _ _ (by unfold V.msls at hm; exact hm) h.2⟩⟩
  | .func g x y, c, hm, h => by
    unfold V.deep
    unfold V.msls at hm
    unfold VRel at h ⊢
    obtain ⟨f1, c1, h1, h2, h3⟩ := h
    exact ⟨f1, c1, h1, LRel.deep hf x _ (fun b hb => hm b (List.mem_append.2 (.inl hb))) h2, LRel.deep hf y _ (fun b hb => hm b (List.mem_append.2 (.inr hb))) h3⟩
  | .iface t v, c, hm, h => by
    unfold V.deep
    unfold V.msls at hm
    unfold VRel at h ⊢
    obtain ⟨x, h1, h2⟩ := h
    exact ⟨x, h1, VRel.deep hf v _ hm h2⟩
  | .agg cs, c, hm, h => by
    unfold V.deep
    unfold V.msls at hm
    unfold VRel at h ⊢
    obtain ⟨x, h1, h2⟩ := h
    exact ⟨x, h1, LRel.deep hf cs _ hm h2⟩
  | .tuple cs, c, hm, h => by
    unfold V.deep
    unfold V.msls at hm
    unfold VRel at h ⊢
    obtain ⟨x, h1, h2⟩ := h
    exact ⟨x, h1, LRel.deep hf cs _ hm h2⟩
  | .msl b ver o sz len, c, hm, h => by
    unfold V.deep
    exact hf b ver o sz len c (hm b (by unfold V.msls; simp)) h
  | .dead, c, hm, h => by unfold V.deep; exact h
  | .junk, c, hm, h => by unfold V.deep; exact h
  | .bool b, c, hm, h => by unfold V.deep; exact h
  | .int k n, c, hm, h => by unfold V.deep; exact h
  | .str s, c, hm, h => by unfold V.deep; exact h
  | .nilptr, c, hm, h => by unfold V.deep; exact h
  | .ptr b ver o, c, hm, h => by unfold V.deep; exact h
  | .nilsl, c, hm, h => by unfold V.deep; exact h
  | .slz, c, hm, h => by unfold V.deep; exact h
  | .nilmap, c, hm, h => by unfold V.deep; exact h
  | .map b, c, hm, h => by unfold V.deep; exact h
  | .iter b, c, hm, h => by unfold V.deep; exact h
  | .yield b, c, hm, h => by unfold V.deep; exact h
  | .tptr .., c, hm, h => by unfold V.deep; exact h
  | .tsl .., c, hm, h => by unfold V.deep; exact h
  | .tnil, c, hm, h => by unfold V.deep; exact h
  | .nilfunc, c, hm, h => by unfold V.deep; exact h
  | .niliface, c, hm, h => by unfold V.deep; exact h
theorem CRel.deep {f : V → V} {l : List Nat} (hf : ∀ b ver o sz len c, b ∈ l → VRel M ρ (.msl b ver o sz len) c → VRel M ρ (f (.msl b ver o sz len)) c) :
    ∀ (cs : List V) (blk off : Nat), (∀ b ∈ mslsL cs, b ∈ l) → CRel M ρ blk off cs → CRel M ρ blk off (deepL f cs)
  | [], _, _, _, _ => by unfold deepL CRel; trivial
  | v :: r, blk, off, hm, h => by
    unfold mslsL at hm
    unfold CRel at h
    obtain ⟨⟨x, hx, hv⟩, hr⟩ := h
    unfold deepL CRel
    exact ⟨⟨x, hx, VRel.deep hf v x (fun b hb => hm b (List.mem_append.2 (.inl hb))) hv⟩, CRel.deep hf r _ _ (fun b hb => hm b (List.mem_append.2 (.inr hb))) hr⟩
theorem LRel.deep {f : V → V} {l : List Nat} (hf : ∀ b ver o sz len c, b ∈ l → VRel M ρ (.msl b ver o sz len) c → VRel M ρ (f (.msl b ver o sz len)) c) :
    ∀ (cs : List V) (xs : List Value), (∀ b ∈ mslsL cs, b ∈ l) → LRel M ρ cs xs → LRel M ρ (deepL f cs) xs
  | [], xs, _, h => by unfold deepL; exact h
  | v :: r, xs, hm, h => by
    unfold mslsL at hm
    unfold LRel at h
    obtain ⟨x, xs', hx, hv, hr⟩ := h
    unfold deepL LRel
    exact ⟨x, xs', hx, VRel.deep hf v x (fun b hb => hm b (List.mem_append.2 (.inl hb))) hv, LRel.deep hf r _ (fun b hb => hm b (List.mem_append.2 (.inr hb))) hr⟩
theorem deepL_length {f : V → V} : ∀ cs : List V, (deepL f cs).length = cs.length
  | [] => by unfold deepL; rfl
  | v :: r => by unfold deepL; simp [deepL_length r]
end

/-- Is a row in memory that nobody writes? -/
def Shut (M : Mem) (ρ : Rho) (H : Heap) (b : Nat) : Prop := ∀ cs mu ver p, H.get b = some (.row cs mu ver) → ρ b = some p → p.ver = ver ∧ CRel M ρ p.block p.off cs

theorem resolve1_rel {l : List Nat} (hs : ∀ b ∈ l, Shut M ρ H b) : ∀ b ver o sz len c, b ∈ l → VRel M ρ (.msl b ver o sz len) c → VRel M ρ (V.resolve1 H (.msl b ver o sz len)) c := by
  intro b ver o sz len c hb h
  have hcell : isCell c := VRel.cell h rfl
  have hj : VRel M ρ .junk c := by unfold VRel; exact hcell
  cases hr : rowOf H b ver with
  | none => simp only [V.resolve1, hr]; exact hj
  | some x =>
    obtain ⟨cs, mu⟩ := x
    simp only [V.resolve1, hr]
    split
    · rename_i hle
      unfold VRel at h
      obtain ⟨p, ad, cap, hp, hve, h1, hc, hl, hpp⟩ := h
      obtain ⟨hv, hcr⟩ := hs b hb cs mu ver p (rowOf_some hr) hp
      obtain ⟨had, _⟩ := hpp hv.symm
      unfold VRel
      refine ⟨ad, cap, hc, hl, by simp; omega, h1, ?_⟩
      rcases had with h0 | h0
      · left; omega
      · right; rw [h0]; exact ⟨rfl, (hcr.drop _).take _⟩
    · exact hj

theorem resolve_rel : ∀ (n : Nat) (v v' : V) (l : List Nat) (c : Value), resolve H n v = (v', l) → (∀ b ∈ l, Shut M ρ H b) → VRel M ρ v c → VRel M ρ v' c
  | 0, v, v', l, c, h, hs, hv => by
    simp only [resolve, Prod.mk.injEq] at h
    rw [← h.1]; exact hv
  | n + 1, v, v', l, c, h, hs, hv => by
    unfold resolve at h
    split at h
    · simp only [Prod.mk.injEq] at h; rw [← h.1]; exact hv
    · rename_i l0 _
      generalize hg : resolve H n (v.deep (V.resolve1 H)) = q at h
      obtain ⟨v1, l1⟩ := q
      simp only [Prod.mk.injEq] at h
      obtain ⟨rfl, rfl⟩ := h
      refine resolve_rel n _ v1 l1 c hg (fun b hb => hs b (List.mem_append.2 (.inr hb))) ?_
      exact VRel.deep (l := v.msls) (resolve1_rel fun b hb => hs b (List.mem_append.2 (.inl hb))) v c (fun b hb => hb) hv

/- values that lean on nothing -/
mutual
theorem VRel.flat_any {M' : Mem} {ρ' : Rho} : ∀ (v : V) (c : Value), v.flat = true → VRel M ρ v c → VRel M' ρ' v c
  | .bool b, c, hf, h => by unfold VRel at *; exact h
  | .int k n, c, hf, h => by unfold VRel at *; exact h
  | .str s, c, hf, h => by unfold VRel at *; exact h
  | .nilptr, c, hf, h => by unfold VRel at *; exact h
  | .nilsl, c, hf, h => by unfold VRel at *; exact h
  | .nilmap, c, hf, h => by unfold VRel at *; exact h
  | .nilfunc, c, hf, h => by unfold VRel at *; exact h
  | .niliface, c, hf, h => by unfold VRel at *; exact h
  | .func g x y, c, hf, h => by
    unfold V.flat at hf
    simp only [Bool.and_eq_true] at hf
    unfold VRel at *
    obtain ⟨f1, c1, h1, h2, h3⟩ := h
    exact ⟨f1, c1, h1, LRel.flat_any x _ hf.1 h2, LRel.flat_any y _ hf.2 h3⟩
  | .iface t v, c, hf, h => by
    unfold V.flat at hf
    unfold VRel at *
    obtain ⟨x, h1, h2⟩ := h
    exact ⟨x, h1, VRel.flat_any v _ hf h2⟩
  | .agg cs, c, hf, h => by
    unfold V.flat at hf
    unfold VRel at *
    obtain ⟨x, h1, h2⟩ := h
    exact ⟨x, h1, LRel.flat_any cs _ hf h2⟩
  | .tuple cs, c, hf, h => by
    unfold V.flat at hf
    unfold VRel at *
    obtain ⟨x, h1, h2⟩ := h
    exact ⟨x, h1, LRel.flat_any cs _ hf h2⟩
  | .dead, c, hf, h => by simp [V.flat] at hf
  | .junk, c, hf, h => by simp [V.flat] at hf
  | .ptr .., c, hf, h => by simp [V.flat] at hf
  | .iptr .., c, hf, h => by simp [V.flat] at hf
  | .slz, c, hf, h => by simp [V.flat] at hf
  | .sl .., c, hf, h => by simp [V.flat] at hf
  | .msl .., c, hf, h => by simp [V.flat] at hf
  | .map .., c, hf, h => by simp [V.flat] at hf
  | .iter .., c, hf, h => by simp [V.flat] at hf
  | .yield .., c, hf, h => by simp [V.flat] at hf
  | .tptr .., c, hf, h => by simp [V.flat] at hf
  | .tsl .., c, hf, h => by simp [V.flat] at hf
  | .tnil, c, hf, h => by unfold VRel at *; exact h
theorem LRel.flat_any {M' : Mem} {ρ' : Rho} : ∀ (l : List V) (xs : List Value), flatL l = true → LRel M ρ l xs → LRel M' ρ' l xs
  | [], xs, hf, h => by unfold LRel at *; exact h
  | v :: r, xs, hf, h => by
    unfold flatL at hf
    simp only [Bool.and_eq_true] at hf
    unfold LRel at *
    obtain ⟨x, xs', h1, h2, h3⟩ := h
    exact ⟨x, xs', h1, VRel.flat_any v x hf.1 h2, LRel.flat_any r xs' hf.2 h3⟩
end

/- a part of a heap -/
theorem indexOf_get : ∀ (l : List Nat) (b i j : Nat), indexOf b l i = some j → i ≤ j ∧ l[j - i]? = some b
  | [], b, i, j, h => by simp [indexOf] at h
  | x :: r, b, i, j, h => by
    unfold indexOf at h
    split at h
    · rename_i e; cases h; subst e; exact ⟨Nat.le_refl _, by simp⟩
    · obtain ⟨h1, h2⟩ := indexOf_get r b (i + 1) j h
      refine ⟨by omega, ?_⟩
      rw [show j - i = (j - (i + 1)) + 1 from by omega, List.getElem?_cons_succ]
      exact h2
theorem indexOf_some : ∀ (l : List Nat) (b i : Nat), b ∈ l → ∃ j, indexOf b l i = some j
  | [], b, i, h => by simp at h
  | x :: r, b, i, h => by
    unfold indexOf
    split
    · exact ⟨i, rfl⟩
    · rename_i e
      rcases List.mem_cons.1 h with h1 | h1
      · exact absurd h1.symm e
      · exact indexOf_some r b (i + 1) h1
theorem indexOf_nodup {l : List Nat} (hn : l.Nodup) {j b : Nat} (h : l[j]? = some b) : indexOf b l 0 = some j := by
  obtain ⟨i, hi⟩ := indexOf_some l b 0 (List.mem_of_getElem? h)
  obtain ⟨_, h2⟩ := indexOf_get l b 0 i hi
  rw [Nat.sub_zero] at h2
  have hj : j < l.length := by
    rcases Nat.lt_or_ge j l.length with h1 | h1
    · exact h1
    · rw [List.getElem?_eq_none h1] at h; cases h
  have : i = j := by
    by_cases e : i = j
    · exact e
    · exact absurd (h2.trans h.symm) (fun e2 => e ((List.getElem?_inj (by
        rcases Nat.lt_or_ge i l.length with h1 | h1
        · exact h1
        · rw [List.getElem?_eq_none h1] at h2; cases h2) hn).1 e2))
  rw [hi, this]
theorem indexOf_none {l : List Nat} {b i : Nat} (h : indexOf b l i = none) : b ∉ l := fun hm => by
  obtain ⟨j, hj⟩ := indexOf_some l b i hm
  rw [h] at hj; cases hj

theorem nodup_rev {l : List Nat} (h : l.Nodup) : l.reverse.Nodup := by
  unfold List.Nodup at *
  rw [List.pairwise_reverse]
  exact h.imp fun h => Ne.symm h
theorem reachGo_nodup (H : Heap) : ∀ (n : Nat) (todo seen l : List Nat), reachGo H n todo seen = some l → seen.Nodup → (∀ b ∈ seen, H.get b ≠ none) → l.Nodup ∧ ∀ b ∈ l, H.get b ≠ none
  | 0, todo, seen, l, hl, h, h2 => by unfold reachGo at hl; cases hl; exact ⟨nodup_rev h, fun b hb => h2 b (by simpa using hb)⟩
  | n + 1, [], seen, l, hl, h, h2 => by unfold reachGo at hl; cases hl; exact ⟨nodup_rev h, fun b hb => h2 b (by simpa using hb)⟩
  | n + 1, b :: todo, seen, l, hl, h, h2 => by
    unfold reachGo at hl
    split at hl
    · exact reachGo_nodup H n todo seen l hl h h2
    · rename_i hns
      split at hl
      · rename_i x hx
        refine reachGo_nodup H n _ (b :: seen) l hl (List.nodup_cons.2 ⟨by simpa using hns, h⟩) (fun c hc => ?_)
        rcases List.mem_cons.1 hc with rfl | hc
        · rw [hx]; simp
        · exact h2 c hc
      · cases hl
theorem reach_nodup {H : Heap} {l l' : List Nat} (h : reach H l = some l') : l'.Nodup ∧ ∀ b ∈ l', H.get b ≠ none := by
  unfold reach at h
  split at h
  · cases h; exact ⟨by simp, by simp⟩
  · exact reachGo_nodup H 10000 l [] l' h (by simp) (by simp)

def subRho (ρ : Rho) (l : List Nat) : Rho := fun i => (l[i]?).bind ρ
theorem subHeap_get (H : Heap) (l : List Nat) (i : Nat) : (subHeap H l).get i = (l[i]?).bind fun b => (H.get b).map (Blk.ren (indexOf · l 0)) := by
  unfold subHeap Heap.get
  rw [List.getElem?_map]
  cases l[i]? <;> rfl

theorem EsRel.ren {ρ' : Rho} {m : Nat → Option Nat} (hm : ∀ b b', m b = some b' → ρ' b' = ρ b) : ∀ {es : List (V × V)} {l : List MapEntry}, EsRel M ρ es l → EsRel M ρ' (renEs m es) l
  | [], l, h => by unfold EsRel at h; subst h; unfold renEs EsRel; rfl
  | (k, v) :: r, l, h => by
    unfold EsRel at h
    obtain ⟨e, es, rfl, hk, hv, hr⟩ := h
    unfold renEs EsRel
    exact ⟨e, es, rfl, VRel.ren hm _ _ hk, VRel.ren hm _ _ hv, EsRel.ren hm hr⟩
theorem renL_get {m : Nat → Option Nat} : ∀ (cs : List V) (j : Nat), (renL m cs)[j]? = (cs[j]?).map (V.ren m)
  | [], j => by unfold renL; simp
  | v :: r, j => by
    unfold renL
    cases j with
    | zero => simp
    | succ j => simpa using renL_get r j
theorem BlkRel.ren {ρ' : Rho} {m : Nat → Option Nat} (hm : ∀ b b', m b = some b' → ρ' b' = ρ b) {p : Pl} {x : Blk} (h : BlkRel w M ρ p x) : BlkRel w M ρ' p (x.ren m) := by
  cases x with
  | row cs mu ver =>
    cases mu with
    | true =>
      obtain ⟨hv, hf, hl, hr⟩ := h
      refine ⟨hv, hf, by rw [renL_length]; exact hl, fun j hj => ?_⟩
      obtain ⟨x, hx, hz, hn, hrel⟩ := hr j hj
      refine ⟨x, hx, hz, hn, fun v hv => ?_⟩
      rw [renL_get] at hv
      obtain ⟨u, hu, rfl⟩ := Option.map_eq_some_iff.1 hv
      exact VRel.ren hm _ _ (hrel u hu)
    | false =>
      obtain ⟨hv, hf, hl, hr⟩ := h
      exact ⟨hv, hf, by rw [renL_length]; exact hl, CRel.ren hm _ _ _ hr⟩
  | map es =>
    obtain ⟨hf, ces, clock, hb, hr, hbo⟩ := h
    exact ⟨hf, ces, clock, hb, EsRel.ren hm hr, hbo⟩
  | iter s p => exact h
  | loop fn tm ps a b st =>
    obtain ⟨hf, r, hb, hr⟩ := h
    exact ⟨hf, r, hb, hr.imp id fun ⟨h1, h2, h3, h4, h5⟩ => ⟨h1, h2, h3, LRel.ren hm _ _ h4, h5⟩⟩
  | miter m since seen last =>
    obtain ⟨hf, om, hb, hr⟩ := h
    exact ⟨hf, om, hb, VRel.ren hm _ _ hr⟩

theorem sub_map (ρ : Rho) (l : List Nat) : ∀ b b', indexOf b l 0 = some b' → subRho ρ l b' = ρ b := fun b b' h => by
  obtain ⟨_, h2⟩ := indexOf_get l b 0 b' h
  rw [Nat.sub_zero] at h2
  simp [subRho, h2]
theorem ren_row {x : Blk} {m : Nat → Option Nat} {cs : List V} {mu : Bool} {ver : Nat} (h : x.ren m = .row cs mu ver) : ∃ cs', x = .row cs' mu ver := by
  cases x with
  | row cs' mu' ver' => simp only [Blk.ren, Blk.row.injEq] at h; obtain ⟨_, rfl, rfl⟩ := h; exact ⟨cs', rfl⟩
  | map es => cases h
  | iter s p => cases h
  | loop => cases h
  | miter => cases h
theorem ren_obj (x : Blk) (m : Nat → Option Nat) : (x.ren m).isObj = x.isObj := by cases x <;> rfl

theorem sub_own {l : List Nat} {i : Nat} {a : Addr} (h : OwnB (subRho ρ l) (subHeap H l) i a) : ∃ b, l[i]? = some b ∧ OwnB ρ H b a := by
  obtain ⟨cs, ver, p, j, h1, h2, h3, h4⟩ := h
  rw [subHeap_get] at h1
  cases hb : l[i]? with
  | none => rw [hb] at h1; cases h1
  | some b =>
    rw [hb] at h1
    simp only [Option.bind_some] at h1
    obtain ⟨x, hx, hr⟩ := Option.map_eq_some_iff.1 h1
    obtain ⟨cs', rfl⟩ := ren_row hr
    simp only [subRho, hb, Option.bind_some] at h2
    exact ⟨b, rfl, cs', ver, p, j, hx, h2, h3, h4⟩
theorem sub_obj {l : List Nat} {i r : Nat} (h : ObjB (subRho ρ l) (subHeap H l) i r) : ∃ b, l[i]? = some b ∧ ObjB ρ H b r := by
  obtain ⟨x, p, h1, h2, h3, h4⟩ := h
  rw [subHeap_get] at h1
  cases hb : l[i]? with
  | none => rw [hb] at h1; cases h1
  | some b =>
    rw [hb] at h1
    simp only [Option.bind_some] at h1
    obtain ⟨y, hy, rfl⟩ := Option.map_eq_some_iff.1 h1
    rw [ren_obj] at h2
    simp only [subRho, hb, Option.bind_some] at h3
    exact ⟨b, rfl, y, p, hy, h2, h3, h4⟩
theorem nodup_inj {l : List Nat} (hn : l.Nodup) {i j b : Nat} (hi : l[i]? = some b) (hj : l[j]? = some b) : i = j := by
  have h1 := indexOf_nodup hn hi
  have h2 := indexOf_nodup hn hj
  rw [h1] at h2; cases h2; rfl

theorem HRel.sub (h : HRel B w M ρ H) {l : List Nat} (hn : l.Nodup) : HRel B w M (subRho ρ l) (subHeap H l) := by
  refine ⟨h.base, h.mem, fun i => ?_, fun i x p hx hp => ?_, fun i j a h1 h2 => ?_, fun i j r h1 h2 => ?_, fun i p t hp ht => by
    unfold subRho at hp
    obtain ⟨b, _, hb⟩ := Option.bind_eq_some_iff.1 hp
    exact h.shp b p t hb ht, fun i p hp h0 => by
    unfold subRho at hp
    obtain ⟨b, _, hb⟩ := Option.bind_eq_some_iff.1 hp
    exact h.off0 b p hb h0⟩
  · rw [subHeap_get]
    cases hb : l[i]? with
    | none => simp [subRho, hb]
    | some b =>
      have := h.dom b
      simp [subRho, hb, this]
  · rw [subHeap_get] at hx
    cases hb : l[i]? with
    | none => rw [hb] at hx; cases hx
    | some b =>
      rw [hb] at hx
      simp only [Option.bind_some] at hx
      obtain ⟨y, hy, rfl⟩ := Option.map_eq_some_iff.1 hx
      simp only [subRho, hb, Option.bind_some] at hp
      exact BlkRel.ren (sub_map ρ l) (h.rel b y p hy hp)
  · obtain ⟨b, hb, o1⟩ := sub_own h1
    obtain ⟨b', hb', o2⟩ := sub_own h2
    have := h.sep _ _ _ o1 o2
    subst this
    exact nodup_inj hn hb hb'
  · obtain ⟨b, hb, o1⟩ := sub_obj h1
    obtain ⟨b', hb', o2⟩ := sub_obj h2
    have := h.sepo _ _ _ o1 o2
    subst this
    exact nodup_inj hn hb hb'

/- the heap behind a call -/
def Fresh (H : Heap) (fresh : Nat → Nat) : Prop := (∀ k, H.get (fresh k) = none) ∧ ∀ i j, fresh i = fresh j → i = j
def mergeRho (ρ ρ' : Rho) (keys : List Nat) : Rho := fun b => match indexOf b keys 0 with
  | some j => ρ' j
  | none => ρ b

theorem keys_nodup {H1 : Heap} {fresh : Nat → Nat} (hf : Fresh H1 fresh) {l : List Nat} (hn : l.Nodup) (hl : ∀ b ∈ l, H1.get b ≠ none) (n : Nat) :
    (l ++ (List.range n).map fresh).Nodup := by
  rw [List.nodup_append]
  refine ⟨hn, ?_, ?_⟩
  · unfold List.Nodup
    rw [List.pairwise_map]
    exact List.nodup_range.imp fun hne e => hne (hf.2 _ _ e)
  · intro a ha b hb e
    subst e
    obtain ⟨k, _, hk⟩ := List.mem_map.1 hb
    exact hl _ ha (hk ▸ hf.1 k)

theorem HRel.merge {H1 H' Hm : Heap} {M1 M' : Mem} {ρ' : Rho} {w' : World} {fresh : Nat → Nat} (h : HRel B w M1 ρ H1) {l : List Nat} (hn : l.Nodup) (hl : ∀ b ∈ l, H1.get b ≠ none)
    (hf : Fresh H1 fresh) (h' : HRel B w' M' ρ' H') (he : Evo w M1 (subRho ρ l) (subHeap H1 l) w' M' ρ' H')
    (hpin : ∀ j, j < l.length → ∀ p, subRho ρ l j = some p → ∃ p', ρ' j = some p' ∧ p.ext p')
    {n : Nat} (hm : ∀ b, Hm.get b = mergeAt H1 H' (l ++ (List.range n).map fresh) b) :
    HRel B w' M' (mergeRho ρ ρ' (l ++ (List.range n).map fresh)) Hm ∧ Evo w M1 ρ H1 w' M' (mergeRho ρ ρ' (l ++ (List.range n).map fresh)) Hm ∧
      ρ.le (mergeRho ρ ρ' (l ++ (List.range n).map fresh)) ∧
      ∀ b b', (l ++ (List.range n).map fresh)[b]? = some b' → mergeRho ρ ρ' (l ++ (List.range n).map fresh) b' = ρ' b := by
  have hkn := keys_nodup hf hn hl n
  generalize hkeys : l ++ (List.range n).map fresh = keys at *
  have hlk : ∀ b ∈ l, b ∈ keys := fun b hb => by rw [← hkeys]; exact List.mem_append.2 (.inl hb)
  have hin : ∀ b j, indexOf b keys 0 = some j → keys[j]? = some b := fun b j h => by
    have := (indexOf_get keys b 0 j h).2
    rwa [Nat.sub_zero] at this
  have hr1 : ∀ b j, indexOf b keys 0 = some j → mergeRho ρ ρ' keys b = ρ' j ∧ Hm.get b = (H'.get j).map (Blk.ren (keys[·]?)) := fun b j h => by
    refine ⟨by simp [mergeRho, h], ?_⟩
    rw [hm]; simp [mergeAt, h]
  have hr2 : ∀ b, indexOf b keys 0 = none → mergeRho ρ ρ' keys b = ρ b ∧ Hm.get b = H1.get b := fun b h => by
    refine ⟨by simp [mergeRho, h], ?_⟩
    rw [hm]; simp [mergeAt, h]
  have hren : ∀ b b', keys[b]? = some b' → mergeRho ρ ρ' keys b' = ρ' b := fun b b' h => (hr1 b' b (indexOf_nodup hkn h)).1
  have subOwn : ∀ a, Own (subRho ρ l) (subHeap H1 l) a → ∃ b ∈ l, OwnB ρ H1 b a := by
    rintro a ⟨i, hi⟩
    obtain ⟨b, hb, ho⟩ := sub_own hi
    exact ⟨b, List.mem_of_getElem? hb, ho⟩
  have subObj : ∀ a, OwnObj (subRho ρ l) (subHeap H1 l) a → ∃ b ∈ l, ObjB ρ H1 b a := by
    rintro a ⟨i, hi⟩
    obtain ⟨b, hb, ho⟩ := sub_obj hi
    exact ⟨b, List.mem_of_getElem? hb, ho⟩
  have notSub : ∀ b a, b ∉ keys → OwnB ρ H1 b a → ¬ Own (subRho ρ l) (subHeap H1 l) a := fun b a hb ho hs => by
    obtain ⟨b', hb', ho'⟩ := subOwn a hs
    have := h.sep _ _ _ ho ho'
    subst this
    exact hb (hlk _ hb')
  have ownM : ∀ b a, OwnB (mergeRho ρ ρ' keys) Hm b a → (∃ j, indexOf b keys 0 = some j ∧ OwnB ρ' H' j a) ∨ (b ∉ keys ∧ OwnB ρ H1 b a) := by
    rintro b a ⟨cs, ver, p, j, h1, h2, h3, h4⟩
    cases hi : indexOf b keys 0 with
    | none =>
      obtain ⟨e1, e2⟩ := hr2 b hi
      exact .inr ⟨indexOf_none hi, cs, ver, p, j, by rw [← e2]; exact h1, by rw [← e1]; exact h2, h3, h4⟩
    | some i =>
      obtain ⟨e1, e2⟩ := hr1 b i hi
      rw [e2] at h1
      obtain ⟨x, hx, hxr⟩ := Option.map_eq_some_iff.1 h1
      obtain ⟨cs', rfl⟩ := ren_row hxr
      exact .inl ⟨i, rfl, cs', ver, p, j, hx, by rw [← e1]; exact h2, h3, h4⟩
  have objM : ∀ b a, ObjB (mergeRho ρ ρ' keys) Hm b a → (∃ j, indexOf b keys 0 = some j ∧ ObjB ρ' H' j a) ∨ (b ∉ keys ∧ ObjB ρ H1 b a) := by
    rintro b a ⟨x, p, h1, h2, h3, h4⟩
    cases hi : indexOf b keys 0 with
    | none =>
      obtain ⟨e1, e2⟩ := hr2 b hi
      exact .inr ⟨indexOf_none hi, x, p, by rw [← e2]; exact h1, h2, by rw [← e1]; exact h3, h4⟩
    | some i =>
      obtain ⟨e1, e2⟩ := hr1 b i hi
      rw [e2] at h1
      obtain ⟨y, hy, rfl⟩ := Option.map_eq_some_iff.1 h1
      rw [ren_obj] at h2
      exact .inl ⟨i, rfl, y, p, hy, h2, by rw [← e1]; exact h3, h4⟩
  have old : ∀ a, Own ρ' H' a → (∃ b ∈ l, OwnB ρ H1 b a) ∨ w.heap.size ≤ a.block := fun a ha => (he.own a ha).imp (subOwn a) id
  have oldo : ∀ r, OwnObj ρ' H' r → (∃ b ∈ l, ObjB ρ H1 b r) ∨ w.heap.size ≤ r := fun a ha => (he.obj a ha).imp (subObj a) id
  have hle : ρ.le (mergeRho ρ ρ' keys) := fun b p hp => by
    cases hi : indexOf b keys 0 with
    | none => exact ⟨p, by rw [(hr2 b hi).1]; exact hp, p.ext_refl⟩
    | some j =>
      have hk := hin b j hi
      rw [(hr1 b j hi).1]
      rcases Nat.lt_or_ge j l.length with hj | hj
      · have hlj : l[j]? = some b := by
          rw [← hkeys, List.getElem?_append_left hj] at hk; exact hk
        exact hpin j hj p (by simp [subRho, hlj, hp])
      · exfalso
        rw [← hkeys, List.getElem?_append_right hj] at hk
        obtain ⟨k, _, hk⟩ := List.mem_map.1 (List.mem_of_getElem? hk)
        have h0 := h.dom b
        rw [hp, ← hk, hf.1 k] at h0
        cases h0
  refine ⟨⟨h'.base, h'.mem, fun b => ?_, fun b x p hx hp => ?_, fun b b' a h1 h2 => ?_, fun b b' r h1 h2 => ?_, fun b p t hp ht => ?_, fun b p hp h0 => ?_⟩, ⟨?_, he.mem, fun a x hx => ?_, ?_, ?_⟩, hle, hren⟩
  · cases hi : indexOf b keys 0 with
    | none => rw [(hr2 b hi).1, (hr2 b hi).2]; exact h.dom b
    | some j =>
      rw [(hr1 b j hi).1, (hr1 b j hi).2, h'.dom j]
      cases H'.get j <;> rfl
  · cases hi : indexOf b keys 0 with
    | some j =>
      rw [(hr1 b j hi).1] at hp
      rw [(hr1 b j hi).2] at hx
      obtain ⟨y, hy, rfl⟩ := Option.map_eq_some_iff.1 hx
      exact BlkRel.ren hren (h'.rel j y p hy hp)
    | none =>
      have hnb := indexOf_none hi
      rw [(hr2 b hi).1] at hp
      rw [(hr2 b hi).2] at hx
      refine (h.rel b x p hx hp).mono he.mem hle (fun j hj => ?_) (fun ho => ?_)
      · cases x with
        | row cs mu ver =>
          cases mu with
          | true =>
            have hoc : OwnB ρ H1 b ⟨p.block, p.off + j, none⟩ := ⟨cs, ver, p, j, hx, hp, hj, rfl⟩
            have hl' := OwnB.lt h hoc
            have hns := notSub b _ hnb hoc
            refine .inl ⟨he.kept.cell _ hl'.1 hns, he.kept.frz _ (OwnB.isSome h hoc) hns, fun hM => ?_⟩
            cases hM' : M' ⟨p.block, p.off + j, none⟩ with
            | none => rfl
            | some y =>
              exfalso
              rcases he.memnew _ _ hM' with h1 | h1 | h1
              · rw [hM] at h1; cases h1
              · exact hns h1
              · have := hl'.1; simp only at h1 this; omega
          | false => exact .inr trivial
        | map es => exact .inr trivial
        | iter s pos => exact .inr trivial
        | loop => exact .inr trivial
        | miter => exact .inr trivial
      · have hoc : ObjB ρ H1 b p.block := ⟨x, p, hx, ho, hp, rfl⟩
        have hl' := ObjB.lt h hoc
        refine he.kept.blk _ hl'.1 (fun a ha hb => ?_) (fun hs => ?_)
        · obtain ⟨b', _, ho'⟩ := subOwn a hb
          obtain ⟨cs, ver, q, j, hq, hq', hj, rfl⟩ := ho'
          obtain ⟨_, _, _, hr⟩ := h.rel b' _ q hq hq'
          obtain ⟨z, hz, _⟩ := hr j hj
          rw [hl'.2 _ ha] at hz; cases hz
        · obtain ⟨b', hb', ho'⟩ := subObj _ hs
          have := h.sepo _ _ _ hoc ho'
          subst this
          exact hnb (hlk _ hb')
  · rcases ownM b a h1 with ⟨j, hj, o1⟩ | ⟨n1, o1⟩ <;> rcases ownM b' a h2 with ⟨j', hj', o2⟩ | ⟨n2, o2⟩
    · have := h'.sep _ _ _ o1 o2
      subst this
      have e1 := hin _ _ hj
      have e2 := hin _ _ hj'
      rw [e1] at e2; cases e2; rfl
    · exfalso
      rcases old a ⟨_, o1⟩ with ⟨c, hc, o3⟩ | o3
      · have := h.sep _ _ _ o2 o3; subst this; exact n2 (hlk _ hc)
      · have := (OwnB.lt h o2).1; omega
    · exfalso
      rcases old a ⟨_, o2⟩ with ⟨c, hc, o3⟩ | o3
      · have := h.sep _ _ _ o1 o3; subst this; exact n1 (hlk _ hc)
      · have := (OwnB.lt h o1).1; omega
    · exact h.sep _ _ _ o1 o2
  · rcases objM b r h1 with ⟨j, hj, o1⟩ | ⟨n1, o1⟩ <;> rcases objM b' r h2 with ⟨j', hj', o2⟩ | ⟨n2, o2⟩
    · have := h'.sepo _ _ _ o1 o2
      subst this
      have e1 := hin _ _ hj
      have e2 := hin _ _ hj'
      rw [e1] at e2; cases e2; rfl
    · exfalso
      rcases oldo r ⟨_, o1⟩ with ⟨c, hc, o3⟩ | o3
      · have := h.sepo _ _ _ o2 o3; subst this; exact n2 (hlk _ hc)
      · have := (ObjB.lt h o2).1; omega
    · exfalso
      rcases oldo r ⟨_, o2⟩ with ⟨c, hc, o3⟩ | o3
      · have := h.sepo _ _ _ o1 o3; subst this; exact n1 (hlk _ hc)
      · have := (ObjB.lt h o1).1; omega
    · exact h.sepo _ _ _ o1 o2
  · cases hi : indexOf b keys 0 with
    | some j =>
      rw [(hr1 b j hi).1] at hp
      exact h'.shp j p t hp ht
    | none =>
      rw [(hr2 b hi).1] at hp
      obtain ⟨s1, s2⟩ := h.shp b p t hp ht
      refine ⟨(he.kept.shp _ ?_).trans s1, s2⟩
      rcases Nat.lt_or_ge p.block w.heap.size with h' | h'
      · exact h'
      · unfold World.shape? at s1; rw [Array.getElem?_eq_none h'] at s1; cases s1
  · cases hi : indexOf b keys 0 with
    | some j =>
      rw [(hr1 b j hi).1] at hp
      exact h'.off0 j p hp h0
    | none =>
      rw [(hr2 b hi).1] at hp
      exact h.off0 b p hp h0
  · exact he.kept.weaken (fun a ha => (subOwn a ha).imp fun _ h => h.2) (fun r hr => (subObj r hr).imp fun _ h => h.2)
  · rcases he.memnew a x hx with h1 | h1 | h1
    · exact .inl h1
    · exact .inr (.inl ((subOwn a h1).imp fun _ h => h.2))
    · exact .inr (.inr h1)
  · rintro a ⟨b, hb⟩
    rcases ownM b a hb with ⟨j, _, o1⟩ | ⟨_, o1⟩
    · exact (old a ⟨_, o1⟩).imp (fun h => h.imp fun _ h => h.2) id
    · exact .inl ⟨b, o1⟩
  · rintro a ⟨b, hb⟩
    rcases objM b a hb with ⟨j, _, o1⟩ | ⟨_, o1⟩
    · exact (oldo a ⟨_, o1⟩).imp (fun h => h.imp fun _ h => h.2) id
    · exact .inl ⟨b, o1⟩

theorem putAll_get (g : Nat → Option Blk) : ∀ (ids : List Nat) (H : Heap) (b : Nat), (∀ c ∈ ids, g c = none → H.get c = none) →
    (putAll H (ids.filterMap fun b => (g b).map fun x => (b, x))).get b = if b ∈ ids then g b else H.get b
  | [], H, b, _ => by simp [putAll]
  | c :: ids, H, b, hn => by
    have step : ∀ (H1 : Heap), (∀ d, H1.get d = if d = c then g c else H.get d) →
        (putAll H1 (ids.filterMap fun b => (g b).map fun x => (b, x))).get b = if b ∈ c :: ids then g b else H.get b := fun H1 h1 => by
      rw [putAll_get g ids H1 b (fun d hd h0 => by
        rw [h1]
        split
        · rename_i e; subst e; exact h0
        · exact hn d (List.mem_cons_of_mem _ hd) h0)]
      by_cases hb : b ∈ ids
      · simp [hb]
      · by_cases e : b = c
        · subst e; simp [hb, h1]
        · simp [hb, e, h1]
    cases hc : g c with
    | none =>
      rw [List.filterMap_cons_none (by simp [hc])]
      exact step H fun d => by
        split
        · rename_i e; subst e; rw [hc]; exact hn _ (List.mem_cons_self) hc
        · rfl
    | some x =>
      rw [List.filterMap_cons_some (b := (c, x)) (by simp [hc])]
      show (putAll (H.put c (some x)) _).get b = _
      exact step _ fun d => by
        split
        · rename_i e; subst e; rw [hc]; exact Heap.get_put_same _ _ _
        · rename_i e; exact Heap.get_put_other _ _ _ _ e
theorem freezeRows_none : ∀ (l : List Nat) (H : Heap) (b : Nat), (freezeRows H l).get b = none ↔ H.get b = none
  | [], H, b => Iff.rfl
  | c :: l, H, b => by
    show (freezeRows (freezeRow H c) l).get b = none ↔ _
    rw [freezeRows_none l _ b, freezeRow_get]
    by_cases e : b = c
    · subst e
      rw [if_pos rfl]
      cases H.get b with
      | none => simp
      | some x => cases x <;> simp
    · rw [if_neg e]
theorem freezeRows_other : ∀ (l : List Nat) (H : Heap) (b : Nat), b ∉ l → (freezeRows H l).get b = H.get b
  | [], H, b, _ => rfl
  | c :: l, H, b, h => by
    show (freezeRows (freezeRow H c) l).get b = _
    simp only [List.mem_cons, not_or] at h
    rw [freezeRows_other l _ b h.2, freezeRow_get, if_neg h.1]
theorem shut_of_freeze {l : List Nat} {M1 : Mem} (h1 : HRel B w M1 ρ (freezeRows H l)) : ∀ b ∈ l, Shut M1 ρ H b := by
  intro b hb cs mu ver p hg hp
  obtain ⟨mu', hg', hmu⟩ := freezeRows_row l H b hg
  have := hmu hb
  subst this
  obtain ⟨h2, _, _, h3⟩ := h1.rel b _ p hg' hp
  exact ⟨h2, h3⟩
end
end Go.Ev
/- Operations that call. -/
set_option linter.unusedSectionVars false
set_option linter.unusedSimpArgs false
set_option linter.unusedVariables false
namespace Go.Ev
open Go

theorem callFunc_enter {P : Program} {f : FuncId} (h : Enters P f) (args : Array Value) (w : World) : (callFunc f args).run P w = .ok (.enter f args) w := by
  obtain ⟨fn, h1, h2, h3⟩ := h
  unfold callFunc
  have hp : Sem.run P program w = .ok P w := rfl
  simp only [Sem.run_bind, hp, Result.andThen_ok, h1, h2, h3]
  rfl

section
variable {X : Ctx} {B : Mem} {w : World} {M : Mem} {ρ : Rho} {H : Heap} {tm : List V} {a : Act} {o : Oper} {r : Res}

theorem Fresh.congr {H1 : Heap} {fresh : Nat → Nat} (h : Fresh H fresh) (e : ∀ b, H.get b = none → H1.get b = none) : Fresh H1 fresh := ⟨fun k => e _ (h.1 k), h.2⟩

/-- What is handed over, and what comes back. -/
theorem call_core {call : CallFn} (h : HRel B w M ρ H) {f : FuncId} {as : List V} {cargs : Array Value} (ha : LRel M ρ as cargs.toList) {fresh : Nat → Nat} (hf : Fresh H fresh) {mu : Bool}
    (hr : callP mu call f as fresh H = some r) : ∃ M1 ρs as' Hs v H', HRel B w M1 ρs Hs ∧ LRel M1 ρs as' cargs.toList ∧ call f as' Hs = some (v, H') ∧
      ∀ c w' M' ρ', HRel B w' M' ρ' H' → VRel M' ρ' v c → Evo w M1 ρs Hs w' M' ρ' H' → (∀ j, j < Hs.length → ∀ p, ρs j = some p → ∃ p', ρ' j = some p' ∧ p.ext p') → OpPost B w M ρ H r.v (putAll H r.wr) c w' := by
    unfold callP at hr
    simp only at hr
    generalize havf : (if mu = true then (V.tuple as, []) else resolve H 4 (.tuple as)) = avf at hr
    obtain ⟨av, frz⟩ := avf
    simp only at hr
    cases av with
    | tuple args =>
      simp only at hr
      -- what is closed
      obtain ⟨M1, h1, e1⟩ := h.freezeAll frz
      have hargs : LRel M1 ρ args cargs.toList := by
        have ht : VRel M1 ρ (.tuple as) (.tuple cargs) := by
          unfold VRel
          exact ⟨cargs, rfl, LRel.mono e1.mem (Rho.le_refl _) _ _ ha⟩
        have : VRel M1 ρ (.tuple args) (.tuple cargs) := by
          by_cases hmut : mu = true
          · rw [if_pos hmut] at havf
            cases havf
            exact ht
          · rw [if_neg hmut] at havf
            exact resolve_rel 4 _ _ _ _ havf (shut_of_freeze h1) ht
        unfold VRel at this
        obtain ⟨xs, hxs, hl⟩ := this
        cases hxs; exact hl
      cases hlg : reach (freezeRows H frz) (refsL args) with
      | none => rw [hlg] at hr; cases hr
      | some l =>
      rw [hlg] at hr
      simp only at hr
      obtain ⟨hn, hl⟩ := reach_nodup hlg
      have hsub := h1.sub hn
      have hargs' : LRel M1 (subRho ρ l) (renL (indexOf · l 0) args) cargs.toList := LRel.ren (sub_map ρ l) _ _ hargs
      split at hr
      · cases hr
      · rename_i v H' hcall
        refine ⟨M1, subRho ρ l, _, _, v, H', hsub, hargs', hcall, ?_⟩
        split at hr
        · -- nothing handed over
          rename_i hc
          simp only [Bool.and_eq_true, List.isEmpty_iff] at hc
          obtain ⟨⟨hl0, hH0⟩, hflat⟩ := hc
          cases hr
          subst hl0
          intro c w' M' ρ' g1 g2 g3 _
          have hk : Kept (fun _ => False) (fun _ => False) w w' := g3.kept.weaken
            (fun a ha => by obtain ⟨b, hb⟩ := ha; obtain ⟨b', hb', _⟩ := sub_own hb; simp at hb')
            (fun a ha => by obtain ⟨b, hb⟩ := ha; obtain ⟨b', hb', _⟩ := sub_obj hb; simp at hb')
          obtain ⟨h2, e2⟩ := h.pass hk
          exact ⟨M, ρ, h2, VRel.flat_any _ _ hflat g2, e2, Rho.le_refl _⟩
        · split at hr
          · cases hr
            have hf1 : Fresh (freezeRows H frz) fresh := hf.congr fun b hb => (freezeRows_none frz H b).2 hb
            intro c w' M' ρ' g1 g2 g3 g4'
            have g4 : ∀ j, j < l.length → ∀ p, subRho ρ l j = some p → ∃ p', ρ' j = some p' ∧ p.ext p' := fun j hj => g4' j (by unfold subHeap; simpa using hj)
            generalize hkeys : l ++ (List.range (H'.length - l.length)).map fresh = keys
            have hget : ∀ b, (putAll H ((frz ++ keys).filterMap (fun b => (mergeAt (freezeRows H frz) H' keys b).map fun x => (b, x)))).get b = mergeAt (freezeRows H frz) H' keys b := by
              intro b
              rw [putAll_get]
              · split
                · rfl
                · rename_i hb
                  simp only [List.mem_append, not_or] at hb
                  unfold mergeAt
                  cases hi : indexOf b keys 0 with
                  | some j =>
                    exfalso
                    have := (indexOf_get keys b 0 j hi).2
                    exact hb.2 (List.mem_of_getElem? this)
                  | none => exact (freezeRows_other frz H b hb.1).symm
              · intro b hb h0
                unfold mergeAt at h0
                cases hi : indexOf b keys 0 with
                | none =>
                  rw [hi] at h0
                  exact (freezeRows_none frz H b).1 h0
                | some j =>
                  rw [hi] at h0
                  simp only [Option.map_eq_none_iff] at h0
                  have hk := (indexOf_get keys b 0 j hi).2
                  rw [Nat.sub_zero, ← hkeys] at hk
                  rcases Nat.lt_or_ge j l.length with hj | hj
                  · exfalso
                    rw [List.getElem?_append_left hj] at hk
                    have hb1 := hl b (List.mem_of_getElem? hk)
                    have hd := h1.dom b
                    cases hp : ρ b with
                    | none =>
                      rw [hp] at hd
                      cases hg : (freezeRows H frz).get b with
                      | none => exact hb1 hg
                      | some x => rw [hg] at hd; cases hd
                    | some p =>
                      obtain ⟨p', hp', _⟩ := g4 j hj p (by simp [subRho, hk, hp])
                      have := g1.dom j
                      rw [hp', h0] at this
                      cases this
                  · rw [List.getElem?_append_right hj] at hk
                    obtain ⟨k, _, hk⟩ := List.mem_map.1 (List.mem_of_getElem? hk)
                    rw [← hk]; exact hf.1 k
            obtain ⟨m1, m2, m3, m4⟩ := HRel.merge h1 hn hl hf1 g1 g3 g4 (n := H'.length - l.length) (by rw [hkeys]; exact hget)
            rw [hkeys] at m1 m2 m3 m4
            exact ⟨M', _, m1, VRel.ren (fun b b' hb => m4 b b' hb) _ _ g2, e1.trans m2, m3⟩
          · cases hr
    | _ => cases hr

/-- A CALL OUT OF A FRAME. -/
theorem call_run {call : CallFn} (hX : CtxOK X B) (hC : CallsOK X.P B call) (h : HRel B w M ρ H) {f : FuncId} {as : List V} {cargs : Array Value} (ha : LRel M ρ as cargs.toList) {fresh : Nat → Nat} (hf : Fresh H fresh)
    (hr : callV X call f as fresh H = some r) (hrun : (execOp a.eval o).run X.P w = (callFunc f cargs).run X.P w) : StepTo X.P o a w (OpPost B w M ρ H r.v (putAll H r.wr)) := by
  unfold callV at hr
  cases hx : X.ext f with
  | some F =>
    rw [hx] at hr
    obtain ⟨v, hv, rfl⟩ := Option.map_eq_some_iff.1 hr
    obtain ⟨c, h1, h2⟩ := hX.ext f F as v hx hv w M ρ cargs h.base h.mem ha
    exact StepTo.value (hrun.trans h1) (OpPost.same h h2)
  | none =>
    rw [hx] at hr
    simp only at hr
    split at hr
    · cases hr
    rename_i hne
    obtain ⟨M1, ρs, as', Hs, v, H', k1, k2, k3, k4⟩ := call_core h ha hf hr
    obtain ⟨hent, hok⟩ := (hC f _ _ _ _ k3).1 hne
    have hcl := hok w M1 ρs cargs k1 k2
    intro K Q hK
    unfold Oper.wp
    rw [hrun, callFunc_enter hent, Oper.upon_enter]
    refine Calls.mono hcl fun e w' he => ?_
    obtain ⟨c, M', ρ', rfl, g1, g2, g3, g4⟩ := he
    exact hK c w' (k4 c w' M' ρ' g1 g2 g3 g4)

/-- Where a method leads. -/
theorem method_run {t : TypeId} {v : V} {c : Value} {name : String} {g : FuncId} {rv : V} (hm : methodV X t v name = some (g, rv)) (n : Nat) (w : World) :
    rv = v ∧ (method (n + 1) t c name).run X.P w = .ok (g, c) w := by
  unfold methodV at hm
  cases hi : X.P.info? t with
  | none => rw [hi] at hm; cases hm
  | some i =>
  rw [hi] at hm
  simp only [Option.bind_eq_bind, Option.bind_some] at hm
  cases hmm : i.methods.find? (·.name == name) with
  | none => rw [hmm] at hm; cases hm
  | some m =>
  rw [hmm] at hm
  simp only [Option.bind_some] at hm
  cases hfn : m.func with
  | none => rw [hfn] at hm; cases hm
  | some fp =>
  obtain ⟨f, pr⟩ := fp
  rw [hfn] at hm
  simp only [Option.bind_some] at hm
  split at hm
  · rename_i hpath
    have hp : m.path.toList = [] := by
      have : m.path = #[] := Array.isEmpty_iff.1 hpath
      rw [this]
    cases hu : und X t with
    | none => rw [hu] at hm; cases hm
    | some d =>
      rw [hu] at hm
      simp only [Option.bind_some] at hm
      have hrun : (method (n + 1) t c name).run X.P w = ((receiverAt t (.val c) pr (some ((name.splitOn ".").getLastD name))).run X.P w).andThen fun x w' => .ok (f, x) w' := by
        unfold method
        simp only [Sem.run_bind, run_info hi, Result.andThen_ok, hmm, hp, follow, Sem.run_pure, hfn, hpath, if_true]
      rw [hrun]
      unfold receiverAt
      simp only [Sem.run_bind, run_und hu, Result.andThen_ok]
      cases d <;> cases pr <;> simp at hm <;> obtain ⟨rfl, rfl⟩ := hm <;> exact ⟨rfl, rfl⟩
  · cases hm

theorem callMethod_run {t : TypeId} {v : V} {c : Value} {name : String} {g : FuncId} {rv : V} (hm : methodV X t v name = some (g, rv)) (args : Array Value) (w : World) :
    (callMethod (.iface t c) name args).run X.P w = (callFunc g (#[c] ++ args)).run X.P w := by
  have hp : Sem.run X.P program w = .ok X.P w := rfl
  unfold callMethod
  simp only [Sem.run_bind, hp, Result.andThen_ok]
  have : X.P.types.size + Made.depth = (X.P.types.size + Made.depth - 1) + 1 := by
    have : 0 < Made.depth := by decide
    omega
  rw [this, (method_run (c := c) hm _ w).2]
  rfl

theorem op_callValue {call : CallFn} (hX : CtxOK X B) (hC : CallsOK X.P B call) (h : HRel B w M ρ H) (ht : LRel M ρ tm a.tmps.toList) {c : Call} (ho : o.op = .call c) {f : Operand} (hc : c.callee = .value f)
    {fresh : Nat → Nat} (hf : Fresh H fresh) {g : FuncId} {first caps : List V} (hv : opd X tm f = .func (.func g) first caps)
    (hr : callV X call g (first ++ c.args.toList.map (opd X tm) ++ caps) fresh H = some r) : StepTo X.P o a w (OpPost B w M ρ H r.v (putAll H r.wr)) := by
  have hfv := opd_rel hX h ht f
  rw [hv] at hfv
  unfold VRel at hfv
  obtain ⟨f1, c1, he, h1, h2⟩ := hfv
  refine call_run hX hC h (cargs := f1 ++ c.args.map a.eval ++ c1) ?_ hf hr ?_
  · simp only [Array.toList_append, Array.toList_map]
    exact (h1.append (opd_list hX h ht c.args.toList)).append h2
  · simp only [execOp, ho, Go.resolve, hc, he, Deferred.ofValue]
    rfl

theorem op_callMethodValue {call : CallFn} (hX : CtxOK X B) (hC : CallsOK X.P B call) (h : HRel B w M ρ H) (ht : LRel M ρ tm a.tmps.toList) {c : Call} (ho : o.op = .call c) {f : Operand} (hc : c.callee = .value f)
    {fresh : Nat → Nat} (hf : Fresh H fresh) {name : String} {t : TypeId} {v : V} {first caps : List V} (hv : opd X tm f = .func (.method name) (.iface t v :: first) caps) {g : FuncId} {rv : V} (hm : methodV X t v name = some (g, rv))
    (hr : callV X call g (rv :: (first ++ c.args.toList.map (opd X tm))) fresh H = some r) : StepTo X.P o a w (OpPost B w M ρ H r.v (putAll H r.wr)) := by
  have hfv := opd_rel hX h ht f
  rw [hv] at hfv
  unfold VRel at hfv
  obtain ⟨f1, c1, he, h1, h2⟩ := hfv
  unfold LRel at h1
  obtain ⟨x, xs, hx, hxr, h1⟩ := h1
  unfold VRel at hxr
  obtain ⟨y, rfl, hy⟩ := hxr
  have hrv := (method_run (c := y) hm 0 w).1
  subst hrv
  refine call_run hX hC h (cargs := #[y] ++ ((f1 ++ c.args.map a.eval).extract 1 (f1 ++ c.args.map a.eval).size)) ?_ hf hr ?_
  · have : (#[y] ++ ((f1 ++ c.args.map a.eval).extract 1 (f1 ++ c.args.map a.eval).size)).toList = y :: (xs ++ c.args.toList.map a.eval) := by
      have hs : f1.size = xs.length + 1 := by rw [← Array.length_toList, hx]; simp
      have e1 : (f1 ++ c.args.map a.eval).toList = .iface t y :: (xs ++ c.args.toList.map a.eval) := by simp [hx]
      rw [Array.toList_append, Array.toList_extract, e1]
      simp [List.extract_eq_take_drop, hs]
      exact List.take_of_length_le (by simp)
    rw [this]
    unfold LRel
    exact ⟨y, _, rfl, hy, h1.append (opd_list hX h ht c.args.toList)⟩
  · have h0 : (f1 ++ c.args.map a.eval)[0]? = some (.iface t y) := by
      rw [← Array.getElem?_toList]
      simp [hx]
    rw [← callMethod_run hm]
    simp only [execOp, ho, Go.resolve, hc, he, Deferred.ofValue]
    simp only [Sem.run_bind, Sem.run_pure, Result.andThen_ok, invoke, h0]

theorem op_callInvoke {call : CallFn} (hX : CtxOK X B) (hC : CallsOK X.P B call) (h : HRel B w M ρ H) (ht : LRel M ρ tm a.tmps.toList) {c : Call} (ho : o.op = .call c) {x : Operand} {name : String} (hc : c.callee = .invoke x name)
    {fresh : Nat → Nat} (hf : Fresh H fresh) {t : TypeId} {v : V} (hv : opd X tm x = .iface t v) {g : FuncId} {rv : V} (hm : methodV X t v name = some (g, rv))
    (hr : callV X call g (rv :: c.args.toList.map (opd X tm)) fresh H = some r) : StepTo X.P o a w (OpPost B w M ρ H r.v (putAll H r.wr)) := by
  have hfv := opd_rel hX h ht x
  rw [hv] at hfv
  unfold VRel at hfv
  obtain ⟨y, he, hy⟩ := hfv
  have hrv := (method_run (c := y) hm 0 w).1
  subst hrv
  refine call_run hX hC h (cargs := #[y] ++ ((#[Value.iface t y] ++ c.args.map a.eval).extract 1 (#[Value.iface t y] ++ c.args.map a.eval).size)) ?_ hf hr ?_
  · have : (#[y] ++ ((#[Value.iface t y] ++ c.args.map a.eval).extract 1 (#[Value.iface t y] ++ c.args.map a.eval).size)).toList = y :: (c.args.toList.map a.eval) := by
      have e1 : (#[Value.iface t y] ++ c.args.map a.eval).toList = .iface t y :: c.args.toList.map a.eval := by simp
      rw [Array.toList_append, Array.toList_extract, e1]
      simp [List.extract_eq_take_drop]
      exact List.take_of_length_le (by simp)
    rw [this]
    unfold LRel
    exact ⟨y, _, rfl, hy, opd_list hX h ht c.args.toList⟩
  · have h0 : (#[Value.iface t y] ++ c.args.map a.eval)[0]? = some (.iface t y) := by
      rw [← Array.getElem?_toList]
      simp
    rw [← callMethod_run hm]
    simp only [execOp, ho, Go.resolve, hc, he]
    simp only [Sem.run_bind, Sem.run_pure, Result.andThen_ok, invoke, h0]
end
end Go.Ev
