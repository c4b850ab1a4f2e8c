/- A part of the proof of BenchRefuses: no statement of the seat's stands here. -/
import Derived.Below
import Derived.Laws.StructEq
import Derived.ChangeKeysEq
import Derived.Test.YtbcackicpjobmaaGreatDoorEvB
set_option linter.unusedSectionVars false
set_option linter.unusedSimpArgs false
set_option linter.unusedVariables false
set_option linter.all false
/- Operations: what memory reads, what is laid. -/
namespace Go.Ev
open Go

/-- What an operation of the model comes to. -/
def StepTo (P : Program) (o : Oper) (a : Act) (w : World) (Post : Value → World → Prop) : Prop :=
  ∀ (K : Act → World → Prop) (Q : Exit → Act → World → Prop), (∀ c w', Post c w' → K (a.put o.dst c) w') → o.wp P a w K Q

def OpPost (B : Mem) (w : World) (M : Mem) (ρ : Rho) (H : Heap) (v : V) (H' : Heap) : Value → World → Prop := fun c w' =>
  ∃ M' ρ', HRel B w' M' ρ' H' ∧ VRel M' ρ' v c ∧ Evo w M ρ H w' M' ρ' H' ∧ ρ.le ρ'

theorem StepTo.value {P : Program} {o : Oper} {a : Act} {w w' : World} {Post : Value → World → Prop} {c : Value}
    (h : (execOp a.eval o).run P w = .ok (.value c) w') (hp : Post c w') : StepTo P o a w Post := fun K Q hK => by
  unfold Oper.wp
  rw [h]
  exact hK c w' hp
theorem StepTo.skip {P : Program} {o : Oper} {a : Act} {w w' : World} {Post : Value → World → Prop}
    (h : (execOp a.eval o).run P w = .ok .skip w') (hp : Post undef w') : StepTo P o a w Post := fun K Q hK => by
  unfold Oper.wp
  rw [h]
  exact hK undef w' hp
theorem StepTo.mono {P : Program} {o : Oper} {a : Act} {w : World} {Post Post' : Value → World → Prop} (h : StepTo P o a w Post) (hp : ∀ c w', Post c w' → Post' c w') : StepTo P o a w Post' :=
  fun K Q hK => h K Q fun c w' hc => hK c w' (hp c w' hc)

section
variable {X : Ctx} {B : Mem} {w : World} {M : Mem} {ρ : Rho} {H : Heap}

theorem OpPost.same (h : HRel B w M ρ H) {v : V} {c : Value} (hv : VRel M ρ v c) : OpPost B w M ρ H v H c w :=
  ⟨M, ρ, h, hv, Evo.refl _ _ _ _, Rho.le_refl _⟩

/- the tables -/
theorem run_und {t : TypeId} {d : TypeDesc} (h : und X t = some d) (w : World) : (underlying t).run X.P w = .ok d w := by
  unfold und at h
  simp [underlying, h]
theorem run_size {t : TypeId} {n : Nat} (h : size X t = some n) (w : World) : (sizeOf t).run X.P w = .ok n w := by
  unfold size at h
  cases hi : X.P.info? t with
  | none => rw [hi] at h; cases h
  | some i => rw [hi] at h; cases h; simp [sizeOf, typeInfo, hi]
theorem run_info {t : TypeId} {i : TypeInfo} (h : X.P.info? t = some i) (w : World) : (typeInfo t).run X.P w = .ok i w := by
  simp [typeInfo, h]
theorem run_bytes {t : TypeId} {n : Nat} (h : bytesOf X t = some n) (w : World) : ∃ i, (typeInfo t).run X.P w = .ok i w ∧ i.bytes = n := by
  unfold bytesOf at h
  cases hi : X.P.info? t with
  | none => rw [hi] at h; cases h
  | some i => rw [hi] at h; cases h; exact ⟨i, run_info hi w, rfl⟩
theorem run_agg {t : TypeId} {b : Bool} (h : aggT X t = some b) (w : World) : (isAgg t).run X.P w = .ok b w := by
  unfold aggT at h
  cases hd : und X t with
  | none => rw [hd] at h; cases h
  | some d =>
    rw [hd] at h
    simp only [Option.map_some, Option.some.injEq] at h
    simp only [isAgg, Sem.run_bind, run_und hd, Result.andThen_ok]
    cases d <;> simp at h <;> subst h <;> rfl

theorem ofScalar_rel (M : Mem) (ρ : Rho) (v : Value) : VRel M ρ (ofScalar v) v := by
  unfold ofScalar
  split <;> unfold VRel <;> first | rfl | trivial | exact ⟨_, rfl, rfl⟩
theorem ofScalar_list (M : Mem) (ρ : Rho) : ∀ l : List Value, LRel M ρ (l.map ofScalar) l
  | [] => by unfold List.map LRel; rfl
  | v :: r => by
    simp only [List.map_cons]
    unfold LRel
    exact ⟨v, r, rfl, ofScalar_rel M ρ v, ofScalar_list M ρ r⟩
theorem ofValue_rel (M : Mem) (ρ : Rho) (v : Value) : VRel M ρ (ofValue v) v := by
  unfold ofValue
  split
  · unfold VRel; exact ⟨_, rfl, ofScalar_list M ρ _⟩
  · exact ofScalar_rel M ρ _
theorem run_zero {t : TypeId} {z : V} (h : zeroV X t = some z) (w : World) : ∃ c, (zeroValue t).run X.P w = .ok c w ∧ ∀ M ρ, VRel M ρ z c := by
  unfold zeroV at h
  cases hi : X.P.info? t with
  | none => rw [hi] at h; cases h
  | some i =>
    rw [hi] at h
    simp only [Option.bind_some] at h
    cases hz : i.zero with
    | none => rw [hz] at h; cases h
    | some c =>
      rw [hz] at h
      cases h
      exact ⟨c, by simp [zeroValue, run_info hi, hz], fun M ρ => ofValue_rel M ρ c⟩

/- cells of the world -/
def CellsIn (w : World) (M : Mem) (ρ : Rho) (a : Addr) (cs : List V) : Prop :=
  ∀ (j : Nat) (v : V), cs[j]? = some v → ∃ x, w.cell? ⟨a.block, a.off + j, none⟩ = some x ∧ VRel M ρ v x
theorem CellsIn.drop {a : Addr} {cs : List V} (h : CellsIn w M ρ a cs) (n : Nat) : CellsIn w M ρ ⟨a.block, a.off + n, none⟩ (cs.drop n) := fun j v hv => by
  rw [List.getElem?_drop] at hv
  obtain ⟨x, hx, hr⟩ := h _ v hv
  exact ⟨x, by rw [show a.off + n + j = a.off + (n + j) from by omega]; exact hx, hr⟩
theorem CellsIn.take {a : Addr} {cs : List V} (h : CellsIn w M ρ a cs) (n : Nat) : CellsIn w M ρ a (cs.take n) := fun j v hv => by
  rw [List.getElem?_take] at hv
  split at hv
  · exact h j v hv
  · cases hv
theorem CRel.cellsIn (h : HRel B w M ρ H) {blk off : Nat} {cs : List V} (hc : CRel M ρ blk off cs) : CellsIn w M ρ ⟨blk, off, none⟩ cs := fun j v hv => by
  obtain ⟨x, hx, hr⟩ := hc.get hv
  exact ⟨x, h.mem _ _ hx, hr⟩
/-- The concrete cells. -/
theorem CellsIn.list : ∀ {cs : List V} {a : Addr}, CellsIn w M ρ a cs → ∃ xs : List Value, xs.length = cs.length ∧ LRel M ρ cs xs ∧ ∀ (j : Nat) (x : Value), xs[j]? = some x → w.cell? ⟨a.block, a.off + j, none⟩ = some x
  | [], a, _ => ⟨[], rfl, by unfold LRel; rfl, fun j x h => by simp at h⟩
  | v :: r, a, h => by
    obtain ⟨x, hx, hv⟩ := h 0 v rfl
    have hnext : CellsIn w M ρ ⟨a.block, a.off + 1, none⟩ r := fun j u hu => by
      obtain ⟨y, hy, hyr⟩ := h (j + 1) u (by simpa using hu)
      refine ⟨y, ?_, hyr⟩
      rw [show a.off + (j + 1) = a.off + 1 + j from by omega] at hy
      exact hy
    obtain ⟨xs, hl, hr, hc⟩ := CellsIn.list hnext
    refine ⟨x :: xs, by simp [hl], by unfold LRel; exact ⟨x, xs, rfl, hv, hr⟩, fun j y hy => ?_⟩
    cases j with
    | zero =>
      have e : x = y := by simpa using hy
      subst e; exact hx
    | succ j =>
      have := hc j y (by simpa using hy)
      rw [show a.off + (j + 1) = a.off + 1 + j from by omega]
      exact this

theorem add_none (a : Addr) (n : Nat) (h : a.spot = none) : a.add n = ⟨a.block, a.off + n, none⟩ := by
  unfold Addr.add
  split
  · rename_i h0; subst h0; cases a; simp at h; simp [h]
  · rfl

theorem run_loadCells' {a : Addr} {cs : List V} (hs : a.spot = none) (h : CellsIn w M ρ a cs) (P : Program) :
    ∃ xs : List Value, (loadCells a cs.length).run P w = .ok xs.toArray w ∧ LRel M ρ cs xs := by
  obtain ⟨xs, hl, hr, hc⟩ := h.list
  refine ⟨xs, ?_, hr⟩
  rw [← hl]
  exact run_loadCells_list w a xs fun j v hv => by rw [add_none a j hs]; exact hc j v hv

theorem run_loadVar' {t : TypeId} {ag : Bool} {n : Nat} {a : Addr} {cs : List V} {v : V} (ha : aggT X t = some ag) (hn : size X t = some n) (hs : a.spot = none)
    (h : CellsIn w M ρ a cs) (hv : takeV ag n cs = some v) : ∃ c, (loadVar t a).run X.P w = .ok c w ∧ VRel M ρ v c := by
  unfold takeV at hv
  cases ag with
  | true =>
    simp only [if_true] at hv
    split at hv
    · rename_i hle
      cases hv
      obtain ⟨xs, hx, hr⟩ := run_loadCells' hs (h.take n) X.P
      rw [List.length_take, Nat.min_eq_left hle] at hx
      exact ⟨.agg xs.toArray, by simp [loadVar, run_agg ha, run_size hn, hx], by unfold VRel; exact ⟨_, rfl, hr⟩⟩
    · cases hv
  | false =>
    simp only [Bool.false_eq_true, if_false] at hv
    cases cs with
    | nil => cases hv
    | cons u r =>
      simp only [Option.some.injEq] at hv
      subst hv
      obtain ⟨x, hx, hr⟩ := h 0 u rfl
      refine ⟨x, ?_, hr⟩
      have e : a = ⟨a.block, a.off + 0, none⟩ := by cases a; simp at hs; simp [hs]
      rw [← e] at hx
      simp [loadVar, run_agg ha, hx]

theorem rowOf_some {b ver : Nat} {cs : List V} {mu : Bool} (h : rowOf H b ver = some (cs, mu)) : H.get b = some (.row cs mu ver) := by
  unfold rowOf at h
  split at h
  · rename_i cs' mu' v hg
    split at h
    · rename_i e; subst e; cases h; exact hg
    · cases h
  · cases h
theorem HRel.place (h : HRel B w M ρ H) {b : Nat} {x : Blk} (hb : H.get b = some x) : ∃ p, ρ b = some p ∧ BlkRel w M ρ p x := by
  have := h.dom b
  rw [hb] at this
  obtain ⟨p, hp⟩ := Option.isSome_iff_exists.1 this
  exact ⟨p, hp, h.rel b x p hb hp⟩
theorem BlkRel.cellsIn (h : HRel B w M ρ H) {p : Pl} {cs : List V} {mu : Bool} {ver : Nat} (hr : BlkRel w M ρ p (.row cs mu ver)) : p.ver = ver ∧ CellsIn w M ρ ⟨p.block, p.off, none⟩ cs := by
  cases mu with
  | true =>
    obtain ⟨hv, hf, hl, hr⟩ := hr
    refine ⟨hv, fun j v hj => ?_⟩
    have hlt : j < cs.length := by
      rcases Nat.lt_or_ge j cs.length with h1 | h1
      · exact h1
      · rw [List.getElem?_eq_none h1] at hj; cases hj
    obtain ⟨x, hx, _, _, hrel⟩ := hr j (by omega)
    exact ⟨x, hx, hrel v hj⟩
  | false =>
    obtain ⟨hv, hf, _, hc⟩ := hr
    exact ⟨hv, CRel.cellsIn h hc⟩
theorem BlkRel.lenCap {p : Pl} {cs : List V} {mu : Bool} {ver : Nat} (hr : BlkRel w M ρ p (.row cs mu ver)) : cs.length ≤ p.cap := by
  cases mu with
  | true => exact hr.2.2.1
  | false => exact hr.2.2.1

/-- A row, and a pointer into it. -/
theorem row_at (h : HRel B w M ρ H) {b ver : Nat} {cs : List V} {mu : Bool} (hr : rowOf H b ver = some (cs, mu)) :
    ∃ p, ρ b = some p ∧ p.ver = ver ∧ BlkRel w M ρ p (.row cs mu ver) ∧ CellsIn w M ρ ⟨p.block, p.off, none⟩ cs := by
  obtain ⟨p, hp, hb⟩ := h.place (rowOf_some hr)
  obtain ⟨hv, hc⟩ := BlkRel.cellsIn h hb
  exact ⟨p, hp, hv, hb, hc⟩

theorem cellsAt_rel (h : HRel B w M ρ H) {p : V} {c : Value} (hv : VRel M ρ p c) {cs : List V} {rd : List Nat} (hc : cellsAt H p = some (cs, rd)) :
    ∃ a, c = .pointer (some a) ∧ a.spot = none ∧ CellsIn w M ρ a cs := by
  unfold cellsAt at hc
  split at hc
  · cases hc
    unfold VRel at hv
    obtain ⟨a, rfl, hs, hr⟩ := hv
    exact ⟨a, rfl, hs, CRel.cellsIn h hr⟩
  · rename_i b ver o
    cases hr : rowOf H b ver with
    | none => rw [hr] at hc; cases hc
    | some x =>
      rw [hr] at hc
      obtain ⟨cs', mu⟩ := x
      simp only [Option.bind_eq_bind, Option.bind_some, Option.some.injEq, Prod.mk.injEq] at hc
      obtain ⟨rfl, rfl⟩ := hc
      obtain ⟨q, hq, hqv, _, hcells⟩ := row_at h hr
      unfold VRel at hv
      obtain ⟨q', a, hq', hle, rfl, ha⟩ := hv
      rw [hq] at hq'; cases hq'
      have := ha hqv.symm
      subst this
      exact ⟨_, rfl, rfl, hcells.drop o⟩
  · cases hc

/-- A slice's cells. -/
theorem cellsOf_rel (h : HRel B w M ρ H) {s : V} {c : Value} (hv : VRel M ρ s c) {len : Nat} {cs : List V} {rd : List Nat} (hc : cellsOf H s = some (len, cs, rd)) :
    ∃ base cap, c = .slice base len cap ∧ (base = none → len = 0) ∧ (cs = [] ∨ ∃ a, base = some a ∧ a.spot = none ∧ CellsIn w M ρ a cs) := by
  unfold cellsOf at hc
  split at hc
  · cases hc; unfold VRel at hv; subst hv; exact ⟨none, 0, rfl, fun _ => rfl, .inl rfl⟩
  · cases hc; unfold VRel at hv; obtain ⟨a, rfl⟩ := hv; exact ⟨some a, 0, rfl, fun _ => rfl, .inl rfl⟩
  · cases hc
    unfold VRel at hv
    obtain ⟨a, cap, rfl, hl, hn, hz, hr⟩ := hv
    refine ⟨some a, cap, rfl, (by intro e; cases e), ?_⟩
    rcases hr with h0 | ⟨hs, hr⟩
    · subst h0; left; exact List.length_eq_zero_iff.1 (by omega)
    · exact .inr ⟨a, rfl, hs, CRel.cellsIn h hr⟩
  · rename_i b ver o sz len'
    cases hr : rowOf H b ver with
    | none => rw [hr] at hc; cases hc
    | some x =>
      rw [hr] at hc
      obtain ⟨row, mu⟩ := x
      simp only [Option.bind_eq_bind, Option.bind_some] at hc
      split at hc
      · rename_i hle
        cases hc
        obtain ⟨q, hq, hqv, _, hcells⟩ := row_at h hr
        unfold VRel at hv
        obtain ⟨q', a, cap, hq', hve, hz, rfl, hl, hp⟩ := hv
        rw [hq] at hq'; cases hq'
        obtain ⟨ha, hb⟩ := hp hqv.symm
        refine ⟨some a, cap, rfl, (by intro e; cases e), ?_⟩
        rcases ha with h0 | ha
        · left
          have : len = 0 := by omega
          subst this; simp
        · subst ha
          exact .inr ⟨_, rfl, rfl, (hcells.drop o).take _⟩
      · cases hc
  · cases hc

/-- A row is laid. -/
theorem HRel.layT (tag : Option (TypeId × Nat)) (h : HRel B w M ρ H) {b : Nat} (hb : H.get b = none) (cs : List V) (xs : Array Value) (ty : TypeId) (fz : Nat × Nat)
    (hx : ∀ (j : Nat) (v : V), cs[j]? = some v → ∃ x, xs[j]? = some x ∧ VRel M ρ v x) (hfz : ∀ j, j < xs.size → ¬ (fz.1 ≤ j ∧ j < fz.2)) (htag : ∀ t, tag = some t → t = (ty, xs.size)) :
    ∃ ρ', HRel B (w.alloc (.cells xs ty fz)) M ρ' (H.put b (some (.row cs true 0))) ∧ Evo w M ρ H (w.alloc (.cells xs ty fz)) M ρ' (H.put b (some (.row cs true 0))) ∧ ρ.le ρ' ∧
      ρ' b = some ⟨w.heap.size, 0, xs.size, 0, false, tag⟩ := by
  have hρ : ρ b = none := by
    have := h.dom b
    rw [hb] at this
    simpa using this
  have hnew : ∀ j, (w.alloc (.cells xs ty fz)).cell? ⟨w.heap.size, j, none⟩ = xs[j]? := fun j => by
    unfold World.cell?
    rw [show (w.alloc (.cells xs ty fz)).heap[w.heap.size]? = some (.cells xs ty fz) from Array.getElem?_push_size]
    rfl
  have hkept : Kept (OwnB ρ H b) (ObjB ρ H b) w (w.alloc (.cells xs ty fz)) := by
    refine ⟨rfl, rfl, rfl, by simp, fun r hr _ _ => ?_, fun a hl _ => World.cell?_alloc_lt _ _ _ hl, fun a hl _ => World.frozen?_alloc_old _ _ _ (by have := cell_lt hl; omega), fun r hr => shape_alloc _ _ hr⟩
    show (w.heap.push _)[r]? = _
    rw [Array.getElem?_push, if_neg (by omega)]
  obtain ⟨h1, h2, h3⟩ := HRel.turn h b (.row cs true 0) ⟨w.heap.size, 0, xs.size, 0, false, tag⟩ (fun p hp => by rw [hρ] at hp; cases hp) hkept
    (fun _ _ _ _ _ => .inr (Nat.le_refl _)) (fun e => by simp [Blk.isObj] at e) (by
      have hle : ρ.le (upd ρ b ⟨w.heap.size, 0, xs.size, 0, false, tag⟩) := upd_le fun p hp => by rw [hρ] at hp; cases hp
      refine ⟨rfl, rfl, ?_, fun j hj => ?_⟩
      · show cs.length ≤ xs.size
        rcases Nat.lt_or_ge xs.size cs.length with hlt | hge
        · obtain ⟨x, hx', _⟩ := hx xs.size _ (List.getElem?_eq_getElem hlt)
          simp at hx'
        · exact hge
      · simp only [Nat.zero_add]
        refine ⟨xs[j], by rw [hnew]; exact Array.getElem?_eq_getElem hj, ?_, ?_, fun v hv => ?_⟩
        · have := hfz j hj
          unfold World.frozen?
          rw [show (w.alloc (.cells xs ty fz)).heap[w.heap.size]? = some (.cells xs ty fz) from Array.getElem?_push_size]
          show (decide (fz.1 ≤ j) && decide (j < fz.2)) = false
          cases hq : (decide (fz.1 ≤ j) && decide (j < fz.2)) with
          | false => rfl
          | true => simp at hq; exact absurd hq this
        · cases hm : M ⟨w.heap.size, j, none⟩ with
          | none => rfl
          | some y => have := World.block_lt_of_cell? _ _ (h.mem _ _ hm); simp at this
        · obtain ⟨x, hx', hr⟩ := hx j v hv
          rw [Array.getElem?_eq_getElem hj] at hx'
          cases hx'
          exact VRel.mono (Mem.le_refl _) hle _ _ hr) (.inr (.inr fun t ht => by
      have := htag t ht
      subst this
      refine ⟨?_, rfl, rfl⟩
      unfold World.shape?
      rw [show (w.alloc (.cells xs ty fz)).heap[w.heap.size]? = some (.cells xs ty fz) from Array.getElem?_push_size]))
  exact ⟨_, h1, h2, h3, upd_same _ _ _⟩
/-- A row is laid. -/
theorem HRel.lay (h : HRel B w M ρ H) {b : Nat} (hb : H.get b = none) (cs : List V) (xs : Array Value) (ty : TypeId) (fz : Nat × Nat)
    (hx : ∀ (j : Nat) (v : V), cs[j]? = some v → ∃ x, xs[j]? = some x ∧ VRel M ρ v x) (hfz : ∀ j, j < xs.size → ¬ (fz.1 ≤ j ∧ j < fz.2)) :
    ∃ ρ', HRel B (w.alloc (.cells xs ty fz)) M ρ' (H.put b (some (.row cs true 0))) ∧ Evo w M ρ H (w.alloc (.cells xs ty fz)) M ρ' (H.put b (some (.row cs true 0))) ∧ ρ.le ρ' ∧
      ρ' b = some ⟨w.heap.size, 0, xs.size, 0, false, none⟩ :=
  HRel.layT none h hb cs xs ty fz hx hfz (fun t ht => by cases ht)

/-- An object is laid. -/
theorem HRel.layObj (h : HRel B w M ρ H) {b : Nat} (hb : H.get b = none) (x : Blk) (o : Obj) (hx : x.isObj = true)
    (hr : ∀ ρ' w', w'.heap[w.heap.size]? = some o → BlkRel w' M ρ' ⟨w.heap.size, 0, 0, 0, true, none⟩ x) :
    ∃ ρ', HRel B (w.alloc o) M ρ' (H.put b (some x)) ∧ Evo w M ρ H (w.alloc o) M ρ' (H.put b (some x)) ∧ ρ.le ρ' ∧ ρ' b = some ⟨w.heap.size, 0, 0, 0, true, none⟩ := by
  have hρ : ρ b = none := by
    have := h.dom b
    rw [hb] at this
    simpa using this
  have hkept : Kept (OwnB ρ H b) (ObjB ρ H b) w (w.alloc o) := by
    refine ⟨rfl, rfl, rfl, by simp, fun r hr _ _ => ?_, fun a hl _ => World.cell?_alloc_lt _ _ _ hl, fun a hl _ => World.frozen?_alloc_old _ _ _ (by have := cell_lt hl; omega), fun r hr => shape_alloc _ _ hr⟩
    show (w.heap.push _)[r]? = _
    rw [Array.getElem?_push, if_neg (by omega)]
  obtain ⟨h1, h2, h3⟩ := HRel.turn h b x ⟨w.heap.size, 0, 0, 0, true, none⟩ (fun p hp => by rw [hρ] at hp; cases hp) hkept
    (fun cs ver j e _ => by subst e; simp [Blk.isObj] at hx) (fun _ => .inr (Nat.le_refl _)) (hr _ _ Array.getElem?_push_size)
  exact ⟨_, h1, h2, h3, upd_same _ _ _⟩

theorem LRel.toFn {cs : List V} {xs : Array Value} (h : LRel M ρ cs xs.toList) : ∀ (j : Nat) (v : V), cs[j]? = some v → ∃ x, xs[j]? = some x ∧ VRel M ρ v x := fun j v hv => by
  obtain ⟨x, hx, hr⟩ := h.get hv
  exact ⟨x, by simpa using hx, hr⟩
end
end Go.Ev
/- Operations: what is written into what was laid. -/
set_option linter.unusedSectionVars false
set_option linter.unusedSimpArgs false
set_option linter.unusedVariables false
namespace Go.Ev
open Go

theorem heap_setCells (b : Nat) : ∀ (vs : List Value) (o : Nat) (w : World) (r : Nat), r ≠ b → (w.setCells b o vs).heap[r]? = w.heap[r]?
  | [], _, _, _, _ => rfl
  | v :: l, o, w, r, h => by
    simp only [World.setCells]
    rw [heap_setCells b l _ _ r h]
    exact RowKit.Below.heap_setCell w ⟨b, o, none⟩ v r h
theorem size_setCells (b : Nat) : ∀ (vs : List Value) (o : Nat) (w : World), (w.setCells b o vs).heap.size = w.heap.size
  | [], _, _ => rfl
  | v :: l, o, w => by
    simp only [World.setCells]
    rw [size_setCells b l _ _]
    simp
theorem shape_setCells (b : Nat) : ∀ (vs : List Value) (o : Nat) (w : World) (r : Nat), (w.setCells b o vs).shape? r = w.shape? r
  | [], _, _, _ => rfl
  | v :: l, o, w, r => by rw [World.setCells, shape_setCells b l, shape_setCell]
theorem os_setCells (b : Nat) : ∀ (vs : List Value) (o : Nat) (w : World), (w.setCells b o vs).os = w.os ∧ (w.setCells b o vs).tape = w.tape ∧ (w.setCells b o vs).output = w.output
  | [], _, _ => ⟨rfl, rfl, rfl⟩
  | v :: l, o, w => by
    simp only [World.setCells]
    exact os_setCells b l (o + 1) (w.setCell ⟨b, o, none⟩ v)

section
variable {X : Ctx} {B : Mem} {w : World} {M : Mem} {ρ : Rho} {H : Heap}

theorem splice_get {cs new : List V} {o : Nat} (h : o + new.length ≤ cs.length) (j : Nat) :
    (splice cs o new)[j]? = if o ≤ j ∧ j < o + new.length then new[j - o]? else cs[j]? := by
  unfold splice
  rw [List.append_assoc]
  rcases Nat.lt_or_ge j o with h1 | h1
  · rw [if_neg (by omega), List.getElem?_append_left (by simp; omega), List.getElem?_take, if_pos h1]
  · rw [List.getElem?_append_right (by simp; omega)]
    have hl : (cs.take o).length = o := by simp; omega
    rw [hl]
    rcases Nat.lt_or_ge j (o + new.length) with h2 | h2
    · rw [if_pos ⟨h1, h2⟩, List.getElem?_append_left (by omega)]
    · rw [if_neg (by omega), List.getElem?_append_right (by omega), List.getElem?_drop]
      congr 1; omega
theorem splice_length {cs new : List V} {o : Nat} (h : o + new.length ≤ cs.length) : (splice cs o new).length = cs.length := by
  unfold splice
  simp; omega

theorem LRel.cellsAll : ∀ {l : List V} {xs : List Value}, LRel M ρ l xs → l.all V.scalar = true → ∀ x ∈ xs, x.oneCell' = true
  | [], xs, h, _, x, hx => by unfold LRel at h; subst h; cases hx
  | v :: r, l, h, hs, x, hx => by
    unfold LRel at h
    obtain ⟨y, ys, rfl, hv, hr⟩ := h
    simp only [List.all_cons, Bool.and_eq_true] at hs
    rcases List.mem_cons.1 hx with rfl | hx
    · exact VRel.cell hv hs.1
    · exact LRel.cellsAll hr hs.2 x hx

theorem setCells_kept {b : Nat} {cs : List V} {ver : Nat} {p : Pl} (hb : H.get b = some (.row cs true ver)) (hp : ρ b = some p)
    {xs : List Value} {o : Nat} (hle : o + xs.length ≤ p.cap) : Kept (OwnB ρ H b) (ObjB ρ H b) w (w.setCells p.block (p.off + o) xs) := by
  obtain ⟨h1, h2, h3⟩ := os_setCells p.block xs (p.off + o) w
  refine ⟨h1, h2, h3, Nat.le_of_eq (size_setCells _ _ _ _).symm, fun r hr ha _ => ?_, fun a hl hn => ?_, fun a hl hn => World.frozen?_setCells _ _ _ _ _, fun r _ => shape_setCells _ _ _ _ _⟩
  · by_cases e : r = p.block
    · subst e
      cases xs with
      | nil => rfl
      | cons x l =>
        exact absurd ⟨cs, ver, p, 0, hb, hp, by simp at hle; omega, rfl⟩ (ha ⟨p.block, p.off + 0, none⟩ rfl)
    · exact heap_setCells _ _ _ _ _ e
  · refine World.cell?_setCells_out _ _ _ _ _ fun hbl hsp => ?_
    rcases Nat.lt_or_ge a.off (p.off + o) with h4 | h4
    · exact .inl h4
    · right
      rcases Nat.lt_or_ge a.off (p.off + o + xs.length) with h5 | h5
      · exact absurd ⟨cs, ver, p, a.off - p.off, hb, hp, by omega, by
          cases a; simp at hbl hsp h4 h5 ⊢; subst hbl; subst hsp; exact ⟨rfl, by omega, rfl⟩⟩ hn
      · exact h5

/-- Cells of a row are written. -/
theorem HRel.write (h : HRel B w M ρ H) {b : Nat} {cs : List V} {ver : Nat} {p : Pl} (hb : H.get b = some (.row cs true ver)) (hp : ρ b = some p)
    {new : List V} {xs : List Value} {o : Nat} (hle : o + new.length ≤ cs.length) (hx : LRel M ρ new xs) (hs : new.all V.scalar = true) (P : Program) :
    (storeCells ⟨p.block, p.off + o, none⟩ xs).run P w = .ok () (w.setCells p.block (p.off + o) xs) ∧
    ∃ ρ', HRel B (w.setCells p.block (p.off + o) xs) M ρ' (H.put b (some (.row (splice cs o new) true ver))) ∧
      Evo w M ρ H (w.setCells p.block (p.off + o) xs) M ρ' (H.put b (some (.row (splice cs o new) true ver))) ∧ ρ.le ρ' := by
  obtain ⟨hv, hf, hcap, hr⟩ := h.rel b _ p hb hp
  have hlen := hx.length
  have hone := LRel.cellsAll hx hs
  have hin : ∀ j, j < xs.length → (w.cell? ⟨p.block, p.off + o + j, none⟩).isSome = true := fun j hj => by
    obtain ⟨x, hx, _⟩ := hr (o + j) (by omega)
    rw [show p.off + o + j = p.off + (o + j) from by omega, hx]; rfl
  have hfr : ∀ j, j < xs.length → w.frozen? ⟨p.block, p.off + o + j, none⟩ = false := fun j hj => by
    obtain ⟨x, _, hx, _⟩ := hr (o + j) (by omega)
    rw [show p.off + o + j = p.off + (o + j) from by omega, hx]
  refine ⟨run_storeCells_cells p.block (p.off + o) xs 0 w (by simpa using hin) (by simpa using hfr) hone, ?_⟩
  have hle' : ρ.le (upd ρ b p) := upd_le fun q hq => by rw [hp] at hq; cases hq; exact p.ext_refl
  obtain ⟨h1, h2, h3⟩ := HRel.turn h b (.row (splice cs o new) true ver) p (fun q hq => by rw [hp] at hq; cases hq; exact p.ext_refl)
    (setCells_kept hb hp (xs := xs) (o := o) (by omega)) (fun _ _ j _ hj => .inl ⟨cs, ver, p, j, hb, hp, hj, rfl⟩) (fun e => by simp [Blk.isObj] at e) (by
      refine ⟨hv, hf, by rw [splice_length hle]; exact hcap, fun j hj => ?_⟩
      obtain ⟨x, hx0, hz, hm, hrel⟩ := hr j hj
      rw [World.frozen?_setCells]
      by_cases hin' : o ≤ j ∧ j < o + new.length
      · have hj' : j - o < xs.length := by omega
        have hc := World.cell?_setCells_in p.block xs (p.off + o) w hin (j - o) hj'
        rw [show p.off + o + (j - o) = p.off + j from by omega] at hc
        refine ⟨_, hc, hz, hm, fun v hv => ?_⟩
        rw [splice_get hle, if_pos hin'] at hv
        obtain ⟨y, hy, hyr⟩ := hx.get hv
        rw [List.getElem?_eq_getElem hj'] at hy
        cases hy
        exact VRel.mono (Mem.le_refl _) hle' _ _ hyr
      · refine ⟨x, ?_, hz, hm, fun v hv => ?_⟩
        · rw [World.cell?_setCells_out _ _ _ _ _ (fun _ _ => by simp only; omega)]; exact hx0
        · rw [splice_get hle, if_neg hin'] at hv
          exact VRel.mono (Mem.le_refl _) hle' _ _ (hrel v hv))
  exact ⟨_, h1, h2, h3⟩

theorem putAll_nil : putAll H [] = H := rfl
theorem putAll_one (b : Nat) (x : Blk) : putAll H [(b, x)] = H.put b (some x) := rfl

theorem storeAt_rel (h : HRel B w M ρ H) {p : V} {c : Value} (hp : VRel M ρ p c) {new : List V} {xs : List Value} (hx : LRel M ρ new xs) {r : Res} (hr : storeAt H p new = some r) (P : Program) :
    ∃ a w', c = .pointer (some a) ∧ a.spot = none ∧ (storeCells a xs).run P w = .ok () w' ∧ ∃ ρ', HRel B w' M ρ' (putAll H r.wr) ∧ Evo w M ρ H w' M ρ' (putAll H r.wr) ∧ ρ.le ρ' ∧ r.v = .dead := by
  unfold storeAt at hr
  split at hr
  · rename_i b ver o
    cases hro : rowOf H b ver with
    | none => rw [hro] at hr; cases hr
    | some x =>
      obtain ⟨cs, mu⟩ := x
      rw [hro] at hr
      simp only [Option.bind_eq_bind, Option.bind_some] at hr
      split at hr
      · rename_i hcond
        simp only [Bool.and_eq_true, decide_eq_true_eq] at hcond
        obtain ⟨⟨hmu, hle⟩, hs⟩ := hcond
        subst hmu
        simp only [Option.some.injEq] at hr
        subst hr
        obtain ⟨q, hq, hqv, _, _⟩ := row_at h hro
        unfold VRel at hp
        obtain ⟨q', a, hq', _, rfl, ha⟩ := hp
        rw [hq] at hq'; cases hq'
        have := ha hqv.symm
        subst this
        obtain ⟨h1, ρ', h2, h3, h4⟩ := HRel.write h (rowOf_some hro) hq hle hx hs P
        exact ⟨_, _, rfl, rfl, h1, ρ', h2, h3, h4, rfl⟩
      · cases hr
  · cases hr

/-- A row goes over into new memory, or on where it is. -/
theorem HRel.regrow (h : HRel B w M ρ H) {b : Nat} {cs : List V} {ver : Nat} {p : Pl} (hb : H.get b = some (.row cs true ver)) (hp : ρ b = some p)
    {cs' : List V} {xs : Array Value} (hx : LRel M ρ cs' (xs.toList.take cs'.length)) (hl : cs'.length ≤ xs.size) (ty : TypeId) (w1 : World) (hw : w1.heap = w.heap) (hos : w1.os = w.os) (ht : w1.tape = w.tape) (hou : w1.output = w.output) :
    ∃ ρ', HRel B (w1.alloc (.cells xs ty)) M ρ' (H.put b (some (.row cs' true (ver + 1)))) ∧ Evo w M ρ H (w1.alloc (.cells xs ty)) M ρ' (H.put b (some (.row cs' true (ver + 1)))) ∧ ρ.le ρ' ∧
      ρ' b = some ⟨w.heap.size, 0, xs.size, ver + 1, false, some (ty, xs.size)⟩ := by
  obtain ⟨hv, hf, hcap, hr⟩ := h.rel b _ p hb hp
  have hnew : (w1.alloc (.cells xs ty)).heap[w.heap.size]? = some (.cells xs ty) := by
    show (w1.heap.push _)[_]? = _
    rw [hw]; exact Array.getElem?_push_size
  have hext : p.ext ⟨w.heap.size, 0, xs.size, ver + 1, false, some (ty, xs.size)⟩ := ⟨by simp only; omega, fun e => by simp only at e; omega, fun e => by rw [hf] at e; cases e⟩
  have hle' : ρ.le (upd ρ b ⟨w.heap.size, 0, xs.size, ver + 1, false, some (ty, xs.size)⟩) := upd_le fun q hq => by rw [hp] at hq; cases hq; exact hext
  have hkept : Kept (OwnB ρ H b) (ObjB ρ H b) w (w1.alloc (.cells xs ty)) := by
    have hblk : ∀ r, r < w.heap.size → (w1.alloc (.cells xs ty)).heap[r]? = w.heap[r]? := fun r hr => by
      show (w1.heap.push _)[r]? = _
      rw [hw, Array.getElem?_push, if_neg (by omega)]
    refine ⟨hos, ht, hou, by simp [hw], fun r hr _ _ => hblk r hr, fun a hl _ => ?_, fun a hl _ => ?_, fun r hr => shape_heap (hblk r hr)⟩
    · unfold World.cell?; rw [hblk _ hl]
    · unfold World.frozen?; rw [hblk _ (cell_lt hl)]
  obtain ⟨h1, h2, h3⟩ := HRel.turn h b (.row cs' true (ver + 1)) ⟨w.heap.size, 0, xs.size, ver + 1, false, some (ty, xs.size)⟩ (fun q hq => by rw [hp] at hq; cases hq; exact hext) hkept
    (fun _ _ _ _ _ => .inr (Nat.le_refl _)) (fun e => by simp [Blk.isObj] at e) (by
      refine ⟨rfl, rfl, hl, fun j hj => ?_⟩
      simp only [Nat.zero_add]
      have hj' : j < xs.size := hj
      refine ⟨xs[j], ?_, ?_, ?_, fun v hv => ?_⟩
      · unfold World.cell?; rw [hnew]; exact Array.getElem?_eq_getElem hj'
      · unfold World.frozen?; rw [hnew]; show (decide (0 ≤ j) && decide (j < 0)) = false; simp
      · cases hm : M ⟨w.heap.size, j, none⟩ with
        | none => rfl
        | some y => have := World.block_lt_of_cell? _ _ (h.mem _ _ hm); simp at this
      · obtain ⟨x, hx', hr⟩ := hx.get hv
        rw [List.getElem?_take] at hx'
        split at hx'
        · have e : xs.toList[j]? = some xs[j] := by simp [hj']
          rw [e] at hx'; cases hx'
          exact VRel.mono (Mem.le_refl _) hle' _ _ hr
        · cases hx') (.inr (.inr fun t ht => by
      cases ht
      refine ⟨?_, rfl, rfl⟩
      unfold World.shape?
      rw [hnew]))
  exact ⟨_, h1, h2, h3, upd_same _ _ _⟩

/-- A row goes on where it is: from a place in it on, with cells behind. -/
theorem HRel.regrowHere (h : HRel B w M ρ H) {b : Nat} {cs : List V} {ver : Nat} {p : Pl} (hb : H.get b = some (.row cs true ver)) (hp : ρ b = some p)
    {o n : Nat} {new : List V} {xs : List Value} {cap : Nat} (hcs : o + n ≤ cs.length) (hcap : o + cap ≤ p.cap) (hn : n + new.length ≤ cap)
    (hx : LRel M ρ new xs) (hs : new.all V.scalar = true) (P : Program) :
    (storeCells ⟨p.block, p.off + o + n, none⟩ xs).run P w = .ok () (w.setCells p.block (p.off + o + n) xs) ∧
    ∃ ρ', HRel B (w.setCells p.block (p.off + o + n) xs) M ρ' (H.put b (some (.row ((cs.drop o).take n ++ new) true (ver + 1)))) ∧
      Evo w M ρ H (w.setCells p.block (p.off + o + n) xs) M ρ' (H.put b (some (.row ((cs.drop o).take n ++ new) true (ver + 1)))) ∧ ρ.le ρ' ∧
      ρ' b = some ⟨p.block, p.off + o, cap, ver + 1, false, if o = 0 ∧ cap = p.cap then p.ty else none⟩ := by
  obtain ⟨hv, hf, hcap0, hr⟩ := h.rel b _ p hb hp
  have hlen := hx.length
  have hone := LRel.cellsAll hx hs
  have hin : ∀ j, j < xs.length → (w.cell? ⟨p.block, p.off + o + n + j, none⟩).isSome = true := fun j hj => by
    obtain ⟨x, hx, _⟩ := hr (o + n + j) (by omega)
    rw [show p.off + o + n + j = p.off + (o + n + j) from by omega, hx]; rfl
  have hfr : ∀ j, j < xs.length → w.frozen? ⟨p.block, p.off + o + n + j, none⟩ = false := fun j hj => by
    obtain ⟨x, _, hx, _⟩ := hr (o + n + j) (by omega)
    rw [show p.off + o + n + j = p.off + (o + n + j) from by omega, hx]
  refine ⟨run_storeCells_cells p.block (p.off + o + n) xs 0 w (by simpa using hin) (by simpa using hfr) hone, ?_⟩
  have hext : p.ext ⟨p.block, p.off + o, cap, ver + 1, false, if o = 0 ∧ cap = p.cap then p.ty else none⟩ := ⟨by simp only; omega, fun e => by simp only at e; omega, fun e => by rw [hf] at e; cases e⟩
  have hle' : ρ.le (upd ρ b ⟨p.block, p.off + o, cap, ver + 1, false, if o = 0 ∧ cap = p.cap then p.ty else none⟩) := upd_le fun q hq => by rw [hp] at hq; cases hq; exact hext
  have hkept := setCells_kept (w := w) hb hp (xs := xs) (o := o + n) (by omega)
  rw [← Nat.add_assoc] at hkept
  obtain ⟨h1, h2, h3⟩ := HRel.turn h b (.row ((cs.drop o).take n ++ new) true (ver + 1)) ⟨p.block, p.off + o, cap, ver + 1, false, if o = 0 ∧ cap = p.cap then p.ty else none⟩ (fun q hq => by rw [hp] at hq; cases hq; exact hext) hkept
    (fun _ _ j _ hj => .inl ⟨cs, ver, p, o + j, hb, hp, by simp only at hj; omega, by simp only; rw [Nat.add_assoc]⟩) (fun e => by simp [Blk.isObj] at e) (by
      have hl1 : ((cs.drop o).take n).length = n := by simp; omega
      refine ⟨rfl, rfl, by simp only [List.length_append, hl1]; omega, fun j hj => ?_⟩
      simp only at hj ⊢
      obtain ⟨x, hx0, hz, hm, hrel⟩ := hr (o + j) (by omega)
      rw [World.frozen?_setCells]
      rw [show p.off + o + j = p.off + (o + j) from by omega]
      by_cases hin' : n ≤ j ∧ j < n + new.length
      · have hj' : j - n < xs.length := by omega
        have hc := World.cell?_setCells_in p.block xs (p.off + o + n) w hin (j - n) hj'
        rw [show p.off + o + n + (j - n) = p.off + (o + j) from by omega] at hc
        refine ⟨_, hc, hz, hm, fun v hv => ?_⟩
        rw [List.getElem?_append_right (by omega), hl1] at hv
        obtain ⟨y, hy, hyr⟩ := hx.get hv
        rw [List.getElem?_eq_getElem hj'] at hy
        cases hy
        exact VRel.mono (Mem.le_refl _) hle' _ _ hyr
      · refine ⟨x, ?_, hz, hm, fun v hv => ?_⟩
        · rw [World.cell?_setCells_out _ _ _ _ _ (fun _ _ => by simp only; omega)]; exact hx0
        · rcases Nat.lt_or_ge j n with hjn | hjn
          · rw [List.getElem?_append_left (by omega), List.getElem?_take, if_pos hjn, List.getElem?_drop] at hv
            exact VRel.mono (Mem.le_refl _) hle' _ _ (hrel v hv)
          · rw [List.getElem?_eq_none (by simp; omega)] at hv; cases hv) (.inr (.inr fun t ht => by
      by_cases ho : o = 0 ∧ cap = p.cap
      · rw [if_pos ho] at ht
        obtain ⟨s1, s2, s3⟩ := h.shp b p t hp ht
        exact ⟨(shape_setCells _ _ _ _ _).trans s1, by simp only [ho.1, s2], by simp only [ho.2, s3]⟩
      · rw [if_neg ho] at ht; cases ht))
  exact ⟨_, h1, h2, h3, upd_same _ _ _⟩

/-- An object is turned. -/
theorem HRel.turnObj (h : HRel B w M ρ H) {b : Nat} {x y : Blk} {p : Pl} {o o0 : Obj} (hb : H.get b = some x) (hx : x.isObj = true) (hp : ρ b = some p) (hy : y.isObj = true)
    (h0 : w.heap[p.block]? = some o0)
    (hr : ∀ ρ', ρ.le ρ' → ∀ w' : World, w'.heap[p.block]? = some o → BlkRel w' M ρ' p y) (hno0 : ∀ c e f, o0 ≠ .cells c e f) (hno : ∀ c e f, o ≠ .cells c e f) :
    ∃ ρ', HRel B { w with heap := w.heap.setIfInBounds p.block o } M ρ' (H.put b (some y)) ∧
      Evo w M ρ H { w with heap := w.heap.setIfInBounds p.block o } M ρ' (H.put b (some y)) ∧ ρ.le ρ' := by
  have hob : ObjB ρ H b p.block := ⟨x, p, hb, hx, hp, rfl⟩
  have hlt := (ObjB.lt h hob).1
  have hne : ∀ r, r ≠ p.block → (w.heap.setIfInBounds p.block o)[r]? = w.heap[r]? := fun r hr => by
    rw [Array.getElem?_setIfInBounds_ne (Ne.symm hr)]
  have hsame : (w.heap.setIfInBounds p.block o)[p.block]? = some o := by
    rw [Array.getElem?_setIfInBounds_self, if_pos hlt]
  have hkept : Kept (OwnB ρ H b) (ObjB ρ H b) w { w with heap := w.heap.setIfInBounds p.block o } := by
    refine ⟨rfl, rfl, rfl, by simp, fun r hr _ hn => hne r (fun e => hn (e ▸ hob)), fun a hl _ => ?_, fun a hl _ => ?_, fun r _ => ?_⟩
    rotate_right
    · by_cases e : r = p.block
      · subst e
        unfold World.shape?
        simp only [hsame, h0]
        cases o <;> cases o0 <;> first | rfl | exact absurd rfl (hno _ _ _) | exact absurd rfl (hno0 _ _ _)
      · exact shape_heap (hne _ e)
    · by_cases e : a.block = p.block
      · rw [(ObjB.lt h hob).2 a e]
        unfold World.cell?
        simp only [e, hsame]
        cases o <;> first | rfl | exact absurd rfl (hno _ _ _)
      · unfold World.cell?; simp only [hne _ e]
    · by_cases e : a.block = p.block
      · unfold World.frozen?
        simp only [e, hsame, h0]
        cases o <;> cases o0 <;> first | rfl | exact absurd rfl (hno _ _ _) | exact absurd rfl (hno0 _ _ _)
      · unfold World.frozen?; simp only [hne _ e]
  have hle' : ρ.le (upd ρ b p) := upd_le fun q hq => by rw [hp] at hq; cases hq; exact p.ext_refl
  obtain ⟨h1, h2, h3⟩ := HRel.turn h b y p (fun q hq => by rw [hp] at hq; cases hq; exact p.ext_refl) hkept
    (fun _ _ _ e _ => by subst e; simp [Blk.isObj] at hy) (fun _ => .inl hob) (hr _ hle' _ hsame)
  exact ⟨_, h1, h2, h3⟩
end
end Go.Ev
/- Operations on values. -/
set_option linter.unusedSectionVars false
set_option linter.unusedSimpArgs false
set_option linter.unusedVariables false
namespace Go.Ev
open Go

structure CtxOK (X : Ctx) (B : Mem) : Prop where
  glob : ∀ g M ρ, B.le M → VRel M ρ (X.glob g) (.pointer (some ⟨g, 0, none⟩))
  ext : ∀ f F args v, X.ext f = some F → F args = some v → ∀ (w : World) (M : Mem) (ρ : Rho) (cargs : Array Value), B.le M → (∀ a x, M a = some x → w.cell? a = some x) → LRel M ρ args cargs.toList →
    ∃ c, (callFunc f cargs).run X.P w = .ok (.value c) w ∧ VRel M ρ v c

section
variable {X : Ctx} {B : Mem} {w : World} {M : Mem} {ρ : Rho} {H : Heap}

theorem StepTo.val {P : Program} {o : Oper} {a : Act} {w' : World} {Post : Value → World → Prop} {c : Value} {s : Sem Value}
    (he : execOp a.eval o = (do pure (.value (← s)))) (hs : s.run P w = .ok c w') (hp : Post c w') : StepTo P o a w Post :=
  StepTo.value (by rw [he]; simp [hs]) hp
theorem StepTo.unit {P : Program} {o : Oper} {a : Act} {w' : World} {Post : Value → World → Prop} {s : Sem Unit}
    (he : execOp a.eval o = (do s; pure .skip)) (hs : s.run P w = .ok () w') (hp : Post undef w') : StepTo P o a w Post :=
  StepTo.skip (by rw [he]; simp [hs]) hp

theorem opd_rel (hX : CtxOK X B) (h : HRel B w M ρ H) {tm : List V} {a : Act} (ht : LRel M ρ tm a.tmps.toList) (x : Operand) : VRel M ρ (opd X tm x) (a.eval x) := by
  cases x with
  | tmp t =>
    simp only [opd, Act.eval]
    cases hv : tm[t]? with
    | none => unfold VRel; simp only [Option.getD_none]
    | some v =>
      obtain ⟨c, hc, hr⟩ := ht.get hv
      have : a.tmps[t]? = some c := by simpa using hc
      simpa [Array.getD_eq_getD_getElem?, this] using hr
  | const v => exact ofValue_rel M ρ v
  | global g => exact hX.glob g M ρ h.base
  | func f =>
    simp only [opd, Act.eval]
    unfold VRel
    exact ⟨_, _, rfl, by unfold LRel; rfl, by unfold LRel; rfl⟩
theorem opd_list (hX : CtxOK X B) (h : HRel B w M ρ H) {tm : List V} {a : Act} (ht : LRel M ρ tm a.tmps.toList) : ∀ xs : List Operand, LRel M ρ (xs.map (opd X tm)) (xs.map a.eval)
  | [] => by unfold List.map LRel; rfl
  | x :: r => by
    simp only [List.map_cons]
    unfold LRel
    exact ⟨_, _, rfl, opd_rel hX h ht x, opd_list hX h ht r⟩

/- texts -/
theorem sameBytes_eq : ∀ a b : List UInt8, sameBytes a b = (a == b)
  | [], [] => rfl
  | [], _ :: _ => rfl
  | _ :: _, [] => rfl
  | a :: x, b :: y => by
    rw [sameBytes, sameBytes_eq x y, List.cons_beq_cons]
    congr 1
    rw [Bool.eq_iff_iff]
    simp [UInt8.toNat_inj]
theorem lessBytes_eq : ∀ a b : List UInt8, lessBytes a b = Op.bytesLess a b
  | _, [] => by unfold lessBytes; cases ‹List UInt8› <;> rfl
  | [], _ :: _ => rfl
  | a :: x, b :: y => by
    rw [lessBytes, Op.bytesLess, lessBytes_eq x y]
    congr 1
    · rw [Bool.eq_iff_iff]
      simp [UInt8.lt_iff_toNat_lt]
    · congr 1
      rw [Bool.eq_iff_iff]
      simp [UInt8.toNat_inj]

theorem strOp_run {op : BinOp} {x y : List UInt8} {v : V} (hv : strOp op x y = some v) {a b : ByteArray} (ha : a.data.toList = x) (hb : b.data.toList = y) (P : Program) (w : World) :
    ∃ c, (Op.stringOp op a b).run P w = .ok c w ∧ VRel M ρ v c := by
  subst ha; subst hb
  have sz : ∀ s : ByteArray, s.data.toList.length = s.size := fun s => by rw [Array.length_toList]; rfl
  unfold strOp at hv
  unfold Op.stringOp
  simp only [ByteArray.toList_eq]
  cases op <;> simp only [Option.some.injEq, reduceCtorEq] at hv
  case add =>
    split at hv
    · rename_i hle
      cases hv
      rw [sz, sz] at hle
      have : ¬ (((a.size + b.size : Nat) : Int) > IntKind.i64.max) := by
        unfold maxBytes at hle
        simp only [IntKind.max, IntKind.bits, IntKind.signed]
        simp
        omega
      refine ⟨.string (a ++ b), by simp only [this, if_false, Sem.run_pure], ?_⟩
      unfold VRel
      exact ⟨_, rfl, by simp⟩
    · cases hv
  all_goals
    subst hv
    refine ⟨_, rfl, ?_⟩
    unfold VRel
    simp only [sameBytes_eq, lessBytes_eq]

/- numbers -/
theorem bits_run {op : BinOp} {k : IntKind} {x y n : Int} (hv : bits op k x y = some n) (P : Program) (w : World) : (Op.intBits op k x y).run P w = .ok (.int k n) w := by
  unfold bits at hv
  unfold Op.intBits
  cases op <;> simp only [Option.some.injEq, reduceCtorEq] at hv <;> subst hv <;> rfl
theorem shiftOp_run {op : BinOp} {k yk : IntKind} {x y : Int} {v : V} (hv : shiftOp op k x y = some v) (P : Program) (w : World) :
    ∃ c, (Op.shift op k x yk y).run P w = .ok c w ∧ VRel M ρ v c := by
  unfold shiftOp at hv
  unfold Op.shift
  split at hv
  · cases hv
  · rename_i hy
    simp only [hy, if_false]
    cases op <;> simp only [Option.some.injEq, reduceCtorEq] at hv <;> subst hv <;> refine ⟨_, rfl, ?_⟩ <;> unfold VRel <;> rfl
theorem intOp_run {op : BinOp} {k : IntKind} {x y : Int} {v : V} (t : TypeId) (hv : intOp op k x y = some v) (P : Program) (w : World) :
    ∃ c, (binOp op t (.int k x) (.int k y)).run P w = .ok c w ∧ VRel M ρ v c := by
  cases op <;> simp only [intOp] at hv
  case add => cases hv; exact ⟨_, by simp [binOp, Op.intArith]; rfl, by unfold VRel; rfl⟩
  case sub => cases hv; exact ⟨_, by simp [binOp, Op.intArith]; rfl, by unfold VRel; rfl⟩
  case mul => cases hv; exact ⟨_, by simp [binOp, Op.intArith]; rfl, by unfold VRel; rfl⟩
  case quo =>
    split at hv
    · cases hv
    · rename_i hy; cases hv; exact ⟨_, by simp [binOp, Op.intDiv, hy]; rfl, by unfold VRel; rfl⟩
  case rem =>
    split at hv
    · cases hv
    · rename_i hy; cases hv; exact ⟨_, by simp [binOp, Op.intDiv, hy]; rfl, by unfold VRel; rfl⟩
  case and =>
    obtain ⟨n, hn, rfl⟩ := Option.map_eq_some_iff.1 hv
    exact ⟨_, by simp only [binOp, ne_eq, not_true, if_false]; exact bits_run hn P w, by unfold VRel; rfl⟩
  case or =>
    obtain ⟨n, hn, rfl⟩ := Option.map_eq_some_iff.1 hv
    exact ⟨_, by simp only [binOp, ne_eq, not_true, if_false]; exact bits_run hn P w, by unfold VRel; rfl⟩
  case xor =>
    obtain ⟨n, hn, rfl⟩ := Option.map_eq_some_iff.1 hv
    exact ⟨_, by simp only [binOp, ne_eq, not_true, if_false]; exact bits_run hn P w, by unfold VRel; rfl⟩
  case andNot =>
    obtain ⟨n, hn, rfl⟩ := Option.map_eq_some_iff.1 hv
    exact ⟨_, by simp only [binOp, ne_eq, not_true, if_false]; exact bits_run hn P w, by unfold VRel; rfl⟩
  case shl => cases hv
  case shr => cases hv
  case eql => cases hv; exact ⟨_, by simp [binOp, Op.intCmp]; rfl, by unfold VRel; simp [Bool.beq_eq_decide_eq]⟩
  case neq => cases hv; exact ⟨_, by simp [binOp, Op.intCmp]; rfl, by unfold VRel; simp [bne, Bool.beq_eq_decide_eq]⟩
  all_goals (cases hv; exact ⟨_, by simp [binOp, Op.intCmp]; rfl, by unfold VRel; rfl⟩)
end
end Go.Ev
