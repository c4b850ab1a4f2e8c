/- A part of the proof of BenchRefuses: no statement of the seat's stands here. -/
import Derived.Laws.BytesString
import Derived.Laws.NewFold
import Derived.Test.YtbcackicpjobmaaGreatDoorEvE
set_option linter.unusedSectionVars false
set_option linter.unusedSimpArgs false
set_option linter.unusedVariables false
set_option linter.all false
/- Conversions, new slices, built-ins. -/
set_option linter.unusedSectionVars false
set_option linter.unusedSimpArgs false
set_option linter.unusedVariables false
namespace Go.Ev
open Go
section
variable {X : Ctx} {B : Mem} {w : World} {M : Mem} {ρ : Rho} {H : Heap} {tm : List V} {a : Act} {o : Oper} {r : Res}

theorem freeze_alloc (w : World) (c : Array Value) (t : TypeId) (n : Nat) : (w.alloc (.cells c t)).freeze ⟨w.heap.size, n, none⟩ 1 = w.alloc (.cells c t (n, n + 1)) := by
  unfold World.freeze
  rw [if_neg (by decide)]
  unfold World.alloc
  simp only [World.mk.injEq, and_true]
  apply Array.ext
  · simp
  · intro i h1 h2
    simp only [Array.size_modify, Array.size_push] at h1
    rw [Array.getElem_modify]
    by_cases e : i = w.heap.size
    · subst e
      simp
    · have : w.heap.size ≠ i := fun x => e x.symm
      simp only [this, if_false]
      rw [Array.getElem_push_lt (by omega), Array.getElem_push_lt (by omega)]

theorem bytesV_rel (M : Mem) (ρ : Rho) : ∀ s : List UInt8, LRel M ρ (bytesV s) (s.map fun b => Value.int .u8 b.toNat)
  | [] => by unfold bytesV List.map LRel; rfl
  | b :: r => by
    have := bytesV_rel M ρ r
    unfold bytesV at *
    simp only [List.map_cons]
    unfold LRel
    exact ⟨_, _, rfl, by unfold VRel; rfl, this⟩
theorem bytesV_scalar (s : List UInt8) : (bytesV s).all V.scalar = true := by
  unfold bytesV; simp [V.scalar]
theorem bytesV_length (s : List UInt8) : (bytesV s).length = s.length := by simp [bytesV]

theorem strV_rel : ∀ {cs : List V} {s : List UInt8} {xs : List Value}, strV cs = some s → LRel M ρ cs xs → ∃ ns : List Int, xs = ns.map (Value.int .u8) ∧ s = ns.map fun n => UInt8.ofNat n.toNat
  | [], s, xs, h, hr => by
    simp only [strV, Option.some.injEq] at h; subst h
    unfold LRel at hr; subst hr
    exact ⟨[], rfl, rfl⟩
  | v :: r, s, xs, h, hr => by
    unfold strV at h
    split at h
    · simp at *
    · rename_i n r' heq
      simp only [List.cons.injEq] at heq
      obtain ⟨rfl, rfl⟩ := heq
      unfold LRel at hr
      obtain ⟨x, xs', rfl, hx, hr⟩ := hr
      unfold VRel at hx; subst hx
      cases hs : strV r with
      | none => rw [hs] at h; cases h
      | some t =>
        rw [hs] at h
        simp only [Option.bind_eq_bind, Option.bind_some, Option.some.injEq] at h
        subst h
        obtain ⟨ns, h1, h2⟩ := strV_rel hs hr
        exact ⟨n :: ns, by simp [h1], by simp [h2]⟩
    · cases h
theorem foldl_push (ns : List Int) : ∀ s : ByteArray, (ns.foldl (fun r n => r.push (UInt8.ofNat n.toNat)) s).data.toList = s.data.toList ++ ns.map fun n => UInt8.ofNat n.toNat := by
  induction ns with
  | nil => intro s; simp
  | cons n r ih => intro s; simp only [List.foldl_cons, List.map_cons]; rw [ih]; simp

theorem run_loadCellsAll {a : Addr} {cs : List V} (hs : a.spot = none) (h : CellsIn w M ρ a cs) (P : Program) :
    ∃ xs : List Value, (∀ w' : World, w'.heap = w.heap → (loadCells a cs.length).run P w' = .ok xs.toArray w') ∧ LRel M ρ cs xs := by
  obtain ⟨xs, hl, hr, hc⟩ := h.list
  refine ⟨xs, fun w' hw => ?_, hr⟩
  rw [← hl]
  refine run_loadCells_list w' a xs fun j v hv => ?_
  rw [add_none a j hs]
  have := hc j v hv
  unfold World.cell? at *
  rw [hw]; exact this

/-- The cells of what is appended or copied. -/
theorem firstCells_run (h : HRel B w M ρ H) {x : V} {c : Value} (hv : VRel M ρ x c) {n : Nat} {cs : List V} {rd : List Nat} {size : Nat}
    (hc : srcCells H x = some (n, cs, rd)) (hl : cs.length = n * size) (P : Program) :
    (Builtin.lenOf c).run P w = .ok n w ∧ ∀ m, m ≤ n → (∀ s, x = .str s → size = 1) → ∃ xs : List Value, (∀ w' : World, w'.heap = w.heap → (Builtin.firstCells size m c).run P w' = .ok xs.toArray w') ∧ LRel M ρ (cs.take (m * size)) xs := by
  by_cases hst : ∃ t, x = .str t
  · obtain ⟨t, rfl⟩ := hst
    simp only [srcCells, Option.some.injEq, Prod.mk.injEq] at hc
    obtain ⟨rfl, rfl, rfl⟩ := hc
    unfold VRel at hv
    obtain ⟨bs, rfl, hbs⟩ := hv
    have hsz : bs.size = t.length := by rw [← hbs, Array.length_toList]; rfl
    refine ⟨by simp [Builtin.lenOf, hsz], fun m hm h1 => ?_⟩
    have := h1 _ rfl
    subst this
    refine ⟨(t.take m).map fun b => Value.int .u8 b.toNat, fun w' _ => ?_, ?_⟩
    · simp only [Builtin.firstCells, Sem.run_pure]
      congr 1
      apply Array.ext'
      simp [bytes_extract, hbs]
    · have := bytesV_rel M ρ (t.take m)
      simpa [bytesV, List.map_take] using this
  · have hc : cellsOf H x = some (n, cs, rd) := by
      cases x <;> first | exact hc | exact absurd ⟨_, rfl⟩ hst
    obtain ⟨base, cap, rfl, hb0, hcs⟩ := cellsOf_rel h hv hc
    refine ⟨rfl, fun m hm _ => ?_⟩
    cases base with
    | none =>
      have := hb0 rfl
      subst this
      have : cs = [] := List.length_eq_zero_iff.1 (by omega)
      subst this
      exact ⟨[], fun _ _ => rfl, by simp; unfold LRel; rfl⟩
    | some ad =>
      rcases hcs with rfl | ⟨a', ha', hs, hcells⟩
      · have h0 : n * size = 0 := by simpa using hl.symm
        have : m * size = 0 := by
          have := Nat.mul_le_mul_right size hm
          omega
        exact ⟨[], fun _ _ => by simp [Builtin.firstCells, this, loadCells, loadCellsFrom], by simp; unfold LRel; rfl⟩
      · cases ha'
        obtain ⟨xs, hx, hr⟩ := run_loadCellsAll hs (hcells.take (m * size)) P
        have hlen : (cs.take (m * size)).length = m * size := by
          have := Nat.mul_le_mul_right size hm
          simp; omega
        rw [hlen] at hx
        exact ⟨xs, fun w' hw => by simp only [Builtin.firstCells]; exact hx w' hw, hr⟩

variable (hX : CtxOK X B) (h : HRel B w M ρ H) (ht : LRel M ρ tm a.tmps.toList)
include hX h ht

theorem op_convert {s d : TypeId} {x : Operand} (ho : o.op = .convert s d x) {fresh : Nat → Nat} (hf : H.get (fresh 0) = none) (hr : convV X s d (opd X tm x) fresh H = some r) : StepTo X.P o a w (OpPost B w M ρ H r.v (putAll H r.wr)) := by
  have hv := opd_rel hX h ht x
  have he : execOp a.eval o = (do pure (.value (← convert s d (a.eval x)))) := by simp only [execOp, ho]
  unfold convV at hr
  cases hus : und X s with
  | none => rw [hus] at hr; cases hr
  | some ds =>
  cases hud : und X d with
  | none => rw [hus, hud] at hr; cases hr
  | some dd =>
    simp only [hus, hud, Option.bind_eq_bind, Option.bind_some] at hr
    split at hr
    · rename_i k k0 n hx
      simp only [Option.some.injEq] at hr; subst hr
      rw [hx] at hv
      unfold VRel at hv
      refine StepTo.val he (c := .int k (k.wrap n)) (w' := w) ?_ (OpPost.same h (by unfold VRel; rfl))
      rw [hv]
      simp only [convert, Sem.run_bind, run_und hus, run_und hud, Result.andThen_ok]
      rfl
    · rename_i t hx
      simp only [Option.some.injEq] at hr; subst hr
      rw [hx] at hv
      have hv0 := hv
      unfold VRel at hv
      obtain ⟨bs, hbs, hrel⟩ := hv
      refine StepTo.val he (c := .string bs) (w' := w) ?_ (OpPost.same h (by rw [← hbs]; exact hv0))
      rw [hbs]
      simp only [convert, Sem.run_bind, run_und hus, run_und hud, Result.andThen_ok]
      rfl
    · rename_i e t hx
      rw [hx] at hv
      unfold VRel at hv
      obtain ⟨bs, hbs, hrel⟩ := hv
      cases hue : und X e with
      | none => rw [hue] at hr; cases hr
      | some de =>
      simp only [hue, Option.bind_some] at hr
      split at hr
      · split at hr
        · rename_i hle
          simp only [Option.some.injEq] at hr; subst hr
          have hsz : bs.size = t.length := by rw [← hrel, Array.length_toList]; rfl
          obtain ⟨cap, hcap⟩ : ∃ cap, cap = (Question.appendCap bs.size 0 e).cut (w.tape w.drawn (Question.appendCap bs.size 0 e)) := ⟨_, rfl⟩
          have hcl : bs.size ≤ cap := by rw [hcap]; simp only [Question.cut]; omega
          obtain ⟨cells, hcells⟩ : ∃ cells : Array Value, cells = (bs.data.map fun b => Value.int .u8 b.toNat) ++ Array.replicate (cap - bs.size) (.int .u8 0) := ⟨_, rfl⟩
          have hcsz : cells.size = cap := by
            rw [hcells, Array.size_append, Array.size_map, Array.size_replicate]
            have : bs.data.size = bs.size := rfl
            omega
          obtain ⟨g1, g2⟩ := h.pass (Kept.drew w)
          have hrow : ∀ (j : Nat) (v : V), (bytesV t)[j]? = some v → ∃ x, cells[j]? = some x ∧ VRel M ρ v x := by
            intro j v hj
            obtain ⟨y, hy, hyr⟩ := (bytesV_rel M ρ t).get hj
            refine ⟨y, ?_, hyr⟩
            have hjl : j < bs.data.size := by
              have : j < (bytesV t).length := by
                rcases Nat.lt_or_ge j (bytesV t).length with h1 | h1
                · exact h1
                · rw [List.getElem?_eq_none h1] at hj; cases hj
              rw [bytesV_length] at this
              have e2 : bs.data.size = bs.size := rfl
              omega
            rw [hcells, Array.getElem?_append_left (by simpa using hjl)]
            rw [← hrel] at hy
            simpa using hy
          obtain ⟨ρ', k1, k2, k3, k4⟩ := HRel.lay g1 hf (bytesV t) cells e (cells.size, cells.size + 1) hrow (fun j hj => by simp only; omega)
          refine StepTo.val he (c := .slice (some ⟨w.heap.size, 0, none⟩) bs.size cap) (w' := w.drew.alloc (.cells cells e (cells.size, cells.size + 1))) ?_ ⟨M, ρ', k1, ?_, g2.trans k2, k3⟩
          · rw [hbs]
            simp only [convert, Sem.run_bind, run_und hus, run_und hud, Result.andThen_ok, run_und hue, Conv.stringToBytes, run_choose, Question.forced, Bool.false_eq_true, if_false]
            rw [← hcap, ← hcells]
            simp only [newRow, Sem.run_bind, run_newObj, Result.andThen_ok, Sem.run_pure, markStringish, run_shape]
            have hs : ({ heap := w.heap.push (Obj.cells cells e), tape := w.tape, drawn := w.drawn + 1, os := w.os, output := w.output } : World).shape? w.heap.size = some (e, cells.size) := by
              unfold World.shape?
              simp only [Array.getElem?_push_size]
            rw [hs]
            have hfa := freeze_alloc w.drew cells e cells.size
            simp only [run_freeze, Result.andThen_ok]
            exact congrArg (Result.ok _) hfa
          · unfold VRel
            refine ⟨_, _, _, k4, Nat.le_refl _, Nat.le_refl _, by rw [hsz]; rfl, by omega, fun _ => ⟨.inr rfl, by simp only; omega⟩⟩
        · cases hr
      · cases hr
    · rename_i e
      cases hue : und X e with
      | none => rw [hue] at hr; cases hr
      | some de =>
      simp only [hue, Option.bind_some] at hr
      split at hr
      · cases hc : cellsOf H (opd X tm x) with
        | none => rw [hc] at hr; cases hr
        | some y =>
          obtain ⟨n, cs, rd⟩ := y
          simp only [hc, Option.bind_some] at hr
          split at hr
          · rename_i hlen
            cases hs : strV cs with
            | none => rw [hs] at hr; cases hr
            | some str =>
              simp only [hs, Option.bind_some, Option.some.injEq] at hr; subst hr
              obtain ⟨base, cap, hbase, hb0, hcells⟩ := cellsOf_rel h hv hc
              have hfin : ∃ c, (convert s d (a.eval x)).run X.P w = .ok c w ∧ VRel M ρ (.str str) c := by
                rw [hbase, run_convert_bytes_string w s d e base n cap hus hue hud]
                cases base with
                | none =>
                  have := hb0 rfl
                  subst this
                  have : cs = [] := List.length_eq_zero_iff.1 hlen
                  subst this
                  simp only [strV, Option.some.injEq] at hs; subst hs
                  exact ⟨.string .empty, rfl, by unfold VRel; exact ⟨_, rfl, rfl⟩⟩
                | some ad =>
                  rcases hcells with rfl | ⟨a', ha', hsp, hci⟩
                  · simp only [strV, Option.some.injEq] at hs; subst hs
                    have : n = 0 := by simpa using hlen.symm
                    subst this
                    refine ⟨_, run_bytesToString w ad 0 cap [] (by simp [loadCells, loadCellsFrom]), ?_⟩
                    unfold VRel; exact ⟨_, rfl, rfl⟩
                  · cases ha'
                    obtain ⟨xs, hx', hr'⟩ := run_loadCells' hsp hci X.P
                    obtain ⟨ns, rfl, rfl⟩ := strV_rel hs hr'
                    rw [hlen] at hx'
                    refine ⟨_, run_bytesToString w ad n cap ns hx', ?_⟩
                    unfold VRel
                    exact ⟨_, rfl, by rw [foldl_push]; rfl⟩
              obtain ⟨c, hc1, hc2⟩ := hfin
              exact StepTo.val he hc1 (OpPost.same h hc2)
          · cases hr
      · cases hr
    · cases hr

theorem op_makeSlice {t : TypeId} {len cap : Operand} (ho : o.op = .makeSlice t len cap) {e : TypeId} (hu : und X t = some (.slice e)) {n by' : Nat} (hn : size X e = some n) (hby : bytesOf X e = some by') {z : V} (hz : zeroV X e = some z)
    {l c : Int} (hl : asI (opd X tm len) = some l) (hc : asI (opd X tm cap) = some c) (h0 : 0 ≤ l) (hlc : l ≤ c) (hb1 : c.toNat * by' ≤ maxBytes) (hb2 : c ≤ maxBytes) (h1 : 1 ≤ n) (hzl : z.cells.length = n) (hzs : z.cells.all V.scalar = true) {b : Nat} (hb : H.get b = none) :
    (c = 0 → StepTo X.P o a w (OpPost B w M ρ H .slz H)) ∧ (c ≠ 0 → StepTo X.P o a w (OpPost B w M ρ H (.msl b 0 0 n l.toNat) (H.put b (some (.row (List.replicate l.toNat z.cells).flatten true 0))))) := by
  obtain ⟨k1, hk1⟩ := asI_rel hl (opd_rel hX h ht len)
  obtain ⟨k2, hk2⟩ := asI_rel hc (opd_rel hX h ht cap)
  obtain ⟨zc, hzc, hzr⟩ := run_zero hz w
  obtain ⟨hcells, hsz⟩ := (hzr M ρ).cells hzs
  obtain ⟨i, hi, hib⟩ := run_bytes hby w
  have hmax : (maxBytes : Int) = 70368744177664 := by decide
  have hw : ∀ m : Int, 0 ≤ m → m ≤ maxBytes → IntKind.i64.wrap m = m := by
    intro m h0 h1
    have hm : (2 ^ IntKind.i64.bits : Int) = 18446744073709551616 := by decide
    have hm2 : (2 ^ (IntKind.i64.bits - 1) : Int) = 9223372036854775808 := by decide
    unfold IntKind.wrap
    rw [hm, hm2]
    have e1 : m % 18446744073709551616 = m := Int.emod_eq_of_lt h0 (by omega)
    have e2 : ¬ (m ≥ 9223372036854775808) := by omega
    simp only [e1, e2, decide_false, Bool.and_false, Bool.false_eq_true, if_false]
  have hwl := hw l h0 (by omega)
  have hwc := hw c (by omega) hb2
  have hcn : (c.toNat : Int) = c := Int.toNat_of_nonneg (by omega)
  have hrep := replicate_rel hcells (by omega) l.toNat
  have hrepc := replicate_rel hcells (by omega) c.toNat
  rw [hsz, hzl] at hrep hrepc
  obtain ⟨cells, hcl⟩ : ∃ cells : Array Value, cells = (Array.range (c.toNat * n)).map (fun i => zc.cells[i % n]!) := ⟨_, rfl⟩
  rw [← hcl] at hrepc
  have hcsz : cells.size = c.toNat * n := by rw [hcl]; simp
  have hrun : (Instr.makeSlice t (a.eval len) (a.eval cap)).run X.P w = .ok (.slice (some ⟨w.heap.size, 0, none⟩) l.toNat c.toNat) (w.alloc (.cells cells e)) := by
    have ht1 : ¬ (c < 0) := by omega
    have ht2 : ¬ ((by' : Int) * c > 2 ^ 48) := by
      have : (by' : Int) * c = ((c.toNat * by' : Nat) : Int) := by
        rw [← hcn]; push_cast; rw [Int.mul_comm]; simp
      rw [this]
      have : ((c.toNat * by' : Nat) : Int) ≤ maxBytes := by exact_mod_cast hb1
      omega
    have ht3 : ¬ (l < 0) := by omega
    have ht4 : ¬ (l > c) := by omega
    simp only [Instr.makeSlice, Sem.run_bind, run_und hu, Result.andThen_ok, hk1, hk2, asInt, asIntOf, Sem.run_pure, hi, hib, hwl, hwc]
    simp only [ht1, ht2, ht3, ht4, decide_false, Bool.or_false, Bool.false_eq_true, if_false, run_askRoom, Result.andThen_ok, run_size hn]
    have hask : (askRoom (c.toNat * by')).run X.P w = .ok () w := by simp
    simp only [Sem.run_bind, hask, Result.andThen_ok, run_size hn]
    by_cases hz0 : c.toNat * n = 0
    · simp only [hz0, if_true, Sem.run_bind, Sem.run_pure, Result.andThen_ok]
      have e0 : ∀ f : Nat → Value, (Array.range 0).map f = #[] := fun f => by apply Array.ext'; simp
      have : cells = #[] := by rw [hcl, hz0]; exact e0 _
      rw [this, e0]
      rfl
    · simp only [hz0, if_false, hzc, Sem.run_bind, Result.andThen_ok, Sem.run_pure]
      rw [hsz, hzl, ← hcl]
      rfl
  have he : execOp a.eval o = (do pure (.value (← Instr.makeSlice t (a.eval len) (a.eval cap)))) := by simp only [execOp, ho]
  refine ⟨fun hc0 => ?_, fun hc0 => ?_⟩
  · subst hc0
    have hl0 : l = 0 := by omega
    subst hl0
    obtain ⟨g1, g2⟩ := h.pass (Kept.alloc w (.cells cells e))
    exact StepTo.val he hrun ⟨M, ρ, g1, by unfold VRel; exact ⟨_, rfl⟩, g2, Rho.le_refl _⟩
  · have hmul : l.toNat * n ≤ c.toNat * n := Nat.mul_le_mul_right _ (by omega)
    have hlen : (List.replicate l.toNat z.cells).flatten.length = l.toNat * n := by
      simp [hzl]
    obtain ⟨ρ', g1, g2, g3, g4⟩ := HRel.lay h hb (List.replicate l.toNat z.cells).flatten cells e (0, 0) (fun j v hj => by
      have hjl : j < l.toNat * n := by
        rcases Nat.lt_or_ge j (List.replicate l.toNat z.cells).flatten.length with h1 | h1
        · omega
        · rw [List.getElem?_eq_none h1] at hj; cases hj
      obtain ⟨x, hx, hr⟩ := hrep.get hj
      refine ⟨x, ?_, hr⟩
      have hx' : ((Array.range (l.toNat * n)).map (fun i => zc.cells[i % n]!))[j]? = some x := by rw [← Array.getElem?_toList]; exact hx
      rw [Array.getElem?_map, Array.getElem?_range, if_pos hjl] at hx'
      rw [hcl, Array.getElem?_map, Array.getElem?_range, if_pos (by omega)]
      exact hx') (fun j _ hj => by omega)
    refine StepTo.val he hrun ⟨M, ρ', g1, ?_, g2, g3⟩
    unfold VRel
    exact ⟨_, _, _, g4, Nat.le_refl _, h1, rfl, by omega, fun _ => ⟨.inr rfl, by simp only; omega⟩⟩
end
end Go.Ev
/- Built-ins. -/
set_option linter.unusedSectionVars false
set_option linter.unusedSimpArgs false
set_option linter.unusedVariables false
namespace Go.Ev
open Go
section
variable {X : Ctx} {B : Mem} {w : World} {M : Mem} {ρ : Rho} {H : Heap} {tm : List V} {a : Act} {o : Oper} {r : Res}

theorem growBy_le (need : Nat) : ∀ (k c : Nat), c < need → Builtin.growBy need k c ≤ 2 * need + 1000
  | 0, c, h => by simp [Builtin.growBy]; omega
  | k + 1, c, h => by
    unfold Builtin.growBy
    split
    · omega
    · by_cases h2 : c + (c + 768) / 4 < need
      · exact growBy_le need k _ h2
      · cases k with
        | zero => simp only [Builtin.growBy]; omega
        | succ k =>
          unfold Builtin.growBy
          rw [if_pos (by omega)]
          omega
theorem nextcap_le (need cap : Nat) (h : cap < need) : Builtin.nextslicecap need cap ≤ 2 * need + 1000 := by
  unfold Builtin.nextslicecap
  split
  · omega
  · split
    · omega
    · exact growBy_le need 4 cap h

theorem zeroCells_rel {z : List V} {c : Array Value} (hz : LRel M ρ z c.toList) (hs : 1 ≤ c.size) (len : Nat) : LRel M ρ (List.replicate len z).flatten (Builtin.zeroCells c len).toList :=
  replicate_rel hz hs len

theorem execOp_builtin {c : Call} (ho : o.op = .call c) {b : Builtin} (hc : c.callee = .builtin b) : execOp a.eval o = builtin b c.argTypes o.type (c.args.map fun | .const _ => true | _ => false) (c.args.map a.eval) := by
  simp only [execOp, ho, Go.resolve, hc]
  rfl

theorem args_two (hX : CtxOK X B) (h : HRel B w M ρ H) (ht : LRel M ρ tm a.tmps.toList) {c : Call} {s x : V} (ha : c.args.toList.map (opd X tm) = [s, x]) :
    ∃ cs cx, c.args.map a.eval = #[cs, cx] ∧ VRel M ρ s cs ∧ VRel M ρ x cx := by
  have hl := opd_list hX h ht c.args.toList
  rw [ha] at hl
  unfold LRel at hl
  obtain ⟨cs, r, h1, h2, hl⟩ := hl
  unfold LRel at hl
  obtain ⟨cx, r', rfl, h3, hl⟩ := hl
  unfold LRel at hl
  subst hl
  refine ⟨cs, cx, ?_, h2, h3⟩
  apply Array.ext'
  rw [Array.toList_map, h1]
theorem args_one (hX : CtxOK X B) (h : HRel B w M ρ H) (ht : LRel M ρ tm a.tmps.toList) {c : Call} {x : V} (ha : c.args.toList.map (opd X tm) = [x]) :
    ∃ cx, c.args.map a.eval = #[cx] ∧ VRel M ρ x cx := by
  have hl := opd_list hX h ht c.args.toList
  rw [ha] at hl
  unfold LRel at hl
  obtain ⟨cs, r, h1, h2, hl⟩ := hl
  unfold LRel at hl
  subst hl
  refine ⟨cs, ?_, h2⟩
  apply Array.ext'
  rw [Array.toList_map, h1]

theorem zerosT_run {xt : Option TypeId} (hzt : zerosT X xt = some false) : xt = none ∨ ∃ t1 d1, xt = some t1 ∧ und X t1 = some d1 ∧ (match d1 with | .int _ => true | _ => false) = false := by
  cases xt with
  | none => exact .inl rfl
  | some t1 =>
    unfold zerosT at hzt
    cases hu1 : und X t1 with
    | none => simp only [hu1] at hzt; cases hzt
    | some d1 =>
      simp only [hu1, Option.map_some, Option.some.injEq] at hzt
      exact .inr ⟨t1, d1, rfl, hu1, by cases d1 <;> first | rfl | (simp [isIntT] at hzt)⟩

/-- An append where there is room. -/
theorem append_stay {ts : Array TypeId} {ty st e : TypeId} (hst : ts[0]? = some st) (hu : und X st = some (.slice e)) {sz : Nat} (hn : size X e = some sz) (hzt : zerosT X ts[1]? = some false) {base : Option Addr} {sLen sCap n : Nat} {cx : Value} {ns : List Value}
    (hl : (Builtin.lenOf cx).run X.P w = .ok n w) (hfc : (Builtin.firstCells sz n cx).run X.P w = .ok ns.toArray w) (hle : sLen + n ≤ sCap) {w' : World}
    (hs : match base with | some ad => (storeCells (ad.add (sLen * sz)) ns).run X.P w = .ok () w' | none => w' = w) :
    (Builtin.append_ ts ty #[.slice base sLen sCap, cx]).run X.P w = .ok (.slice base (sLen + n) sCap) w' := by
  rcases zerosT_run hzt with h1 | ⟨t1, d1, h1, hu1, hd1⟩
  · unfold Builtin.append_
    simp only [hst, List.getElem?_toArray, List.getElem?_cons_zero, List.getElem?_cons_succ, Sem.run_bind, run_und hu, Result.andThen_ok, run_size hn, h1, Sem.run_pure,
      Bool.false_eq_true, if_false, hl, hle, if_true, Bool.not_false, hfc]
    cases base with
    | none => simp only at hs; subst hs; rfl
    | some ad => simp only at hs; simp only [Sem.run_bind, hs, Result.andThen_ok, Sem.run_pure]
  · cases d1
    case int => cases hd1
    all_goals
      unfold Builtin.append_
      simp only [hst, List.getElem?_toArray, List.getElem?_cons_zero, List.getElem?_cons_succ, Sem.run_bind, run_und hu, Result.andThen_ok, run_size hn, h1, run_und hu1, Sem.run_pure,
        Bool.false_eq_true, if_false, hl, hle, if_true, Bool.not_false, hfc]
      cases base with
      | none => simp only at hs; subst hs; rfl
      | some ad => simp only at hs; simp only [Sem.run_bind, hs, Result.andThen_ok, Sem.run_pure]

/-- An append into new memory. -/
theorem append_grow {ts : Array TypeId} {ty st e : TypeId} (hst : ts[0]? = some st) (hu : und X st = some (.slice e)) {sz by' : Nat} (hn : size X e = some sz) (hby : bytesOf X e = some by') (hby0 : by' ≠ 0) (hzt : zerosT X ts[1]? = some false) {z : V} (hzv : zeroV X e = some z)
    (hzl : z.cells.length = sz) (hzs : z.cells.all V.scalar = true) {base : Option Addr} {sLen sCap n : Nat} {cx : Value} {ns os : List Value}
    (hl : (Builtin.lenOf cx).run X.P w = .ok n w) (hfc : ∀ w', w'.heap = w.heap → (Builtin.firstCells sz n cx).run X.P w' = .ok ns.toArray w') (hfo : ∀ w', w'.heap = w.heap → (Builtin.firstCells sz sLen (.slice base sLen sCap)).run X.P w' = .ok os.toArray w')
    (hol : os.length = sLen * sz) (hnl : ns.length = n * sz)
    (hgt : sCap < sLen + n) (hok : (2 * (sLen + n) + 1000) * by' ≤ maxBytes) :
    ∃ cap rest, sLen + n ≤ cap ∧ (os ++ ns ++ rest).length = cap * sz ∧ (Builtin.append_ ts ty #[.slice base sLen sCap, cx]).run X.P w = .ok (.slice (some ⟨w.heap.size, 0, none⟩) (sLen + n) cap) (w.drew.alloc (.cells (os ++ ns ++ rest).toArray e)) := by
  have hmaxb : maxBytes = 70368744177664 := by decide
  obtain ⟨i, hi, hib⟩ := run_bytes hby w
  have hinfo : X.P.info? e = some i := by
    unfold bytesOf at hby
    cases h1 : X.P.info? e with
    | none => rw [h1] at hby; cases hby
    | some j => have := run_info h1 w; rw [hi] at this; cases this; rfl
  obtain ⟨cap, hcap⟩ : ∃ cap, cap = (Question.appendCap (sLen + n) sCap e).cut (w.tape w.drawn (Question.appendCap (sLen + n) sCap e)) := ⟨_, rfl⟩
  have hcl : sLen + n ≤ cap := by rw [hcap]; simp only [Question.cut]; omega
  obtain ⟨zc, hzc, hzr⟩ := run_zero hzv w.drew
  obtain ⟨zcells, zsz⟩ := (hzr (fun _ => none) (fun _ => none)).cells hzs
  obtain ⟨rest, hrest⟩ : ∃ rest : Array Value, rest = Builtin.zeroCells zc.cells (cap - (sLen + n)) := ⟨_, rfl⟩
  have hrl : rest.size = (cap - (sLen + n)) * sz := by
    rw [hrest]; simp [Builtin.zeroCells, zsz, hzl]
  refine ⟨cap, rest.toList, hcl, ?_, ?_⟩
  · simp only [List.length_append, Array.length_toList, hol, hnl, hrl]
    rw [← Nat.add_mul, ← Nat.add_mul]
    congr 1; omega
  · have hb1 : ¬ (((sLen + n : Nat) : Int) > IntKind.i64.max) := by
      have : IntKind.i64.max = 9223372036854775807 := by decide
      rw [this]
      have : sLen + n ≤ (2 * (sLen + n) + 1000) * by' := by
        have := Nat.le_mul_of_pos_right (2 * (sLen + n) + 1000) (show 0 < by' by omega)
        omega
      omega
    have hb2 : ¬ (Builtin.nextslicecap (sLen + n) sCap * by' > 2 ^ 48) := by
      have h1 := Nat.mul_le_mul_right by' (nextcap_le (sLen + n) sCap hgt)
      omega
    have hask : ∀ m w', (askRoom m).run X.P w' = .ok () w' := fun m w' => by simp
    have hng : ¬ (sLen + n ≤ sCap) := by omega
    have hcap' : (Question.appendCap (sLen + n) sCap e).cut (w.tape w.drawn (Question.appendCap (sLen + n) sCap e)) = cap := hcap.symm
    have hfo' := hfo { w with drawn := w.drawn + 1 } rfl
    have hfc' := hfc { w with drawn := w.drawn + 1 } rfl
    have hzc' : (zeroValue e).run X.P { w with drawn := w.drawn + 1 } = .ok zc { w with drawn := w.drawn + 1 } := hzc
    have harr : os.toArray ++ ns.toArray ++ rest = (os ++ ns ++ rest.toList).toArray := by simp
    rcases zerosT_run hzt with h1 | ⟨t1, d1, h1, hu1, hd1⟩
    · unfold Builtin.append_
      simp only [hst, List.getElem?_toArray, List.getElem?_cons_zero, List.getElem?_cons_succ, Sem.run_bind, run_und hu, Result.andThen_ok, run_size hn, h1, Sem.run_pure,
        Bool.false_eq_true, if_false, hl, hng, hi, hib, hb1, false_and, hb2, run_choose, Question.forced, Bool.not_false, if_true, hcap', run_info hinfo, hask, hfo', hfc', hzc', newRow, run_newObj, ← hrest, harr]
      rfl
    · cases d1
      case int => cases hd1
      all_goals
        unfold Builtin.append_
        simp only [hst, List.getElem?_toArray, List.getElem?_cons_zero, List.getElem?_cons_succ, Sem.run_bind, run_und hu, Result.andThen_ok, run_size hn, h1, run_und hu1, Sem.run_pure,
          Bool.false_eq_true, if_false, hl, hng, hi, hib, hb1, false_and, hb2, run_choose, Question.forced, Bool.not_false, if_true, hcap', run_info hinfo, hask, hfo', hfc', hzc', newRow, run_newObj, ← hrest, harr]
        rfl

/-- What the place of an appended row says of its type. -/
def Tagged (X : Ctx) (st : TypeId) (ρ ρ' : Rho) (s : V) : V → Prop
  | .msl b' ver' _ _ _ => ∃ p', ρ' b' = some p' ∧ p'.ver = ver' ∧ ((∃ e n, und X st = some (.slice e) ∧ p'.ty = some (e, n)) ∨
      ∃ b ver o sz len p, s = .msl b ver o sz len ∧ ρ b = some p ∧ p.ver = ver ∧ b' = b ∧ p'.ty = if o = 0 then p.ty else none)
  | _ => True
/-- The run of an append. -/
theorem append_runT (h : HRel B w M ρ H) {ts : Array TypeId} {ty : TypeId} {st : TypeId} (hst : ts[0]? = some st) {s x : V} {cs cx : Value} (hs : VRel M ρ s cs) (hx : VRel M ρ x cx) {fresh : Nat → Nat} (hf : H.get (fresh 0) = none)
    (hr : appendV X st (ts[1]?) s x fresh H = some r) : ∃ c w', (Builtin.append_ ts ty #[cs, cx]).run X.P w = .ok c w' ∧ ∃ M' ρ', HRel B w' M' ρ' (putAll H r.wr) ∧ VRel M' ρ' r.v c ∧ Evo w M ρ H w' M' ρ' (putAll H r.wr) ∧ ρ.le ρ' ∧ Tagged X st ρ ρ' s r.v := by
  unfold appendV at hr
  cases hu : und X st with
  | none => simp [hu] at hr
  | some dd =>
    cases dd <;> simp only [hu, Option.bind_eq_bind, Option.bind_some, reduceCtorEq] at hr
    rename_i e
    cases hn : size X e with
    | none => rw [hn] at hr; cases hr
    | some sz =>
    cases hby : bytesOf X e with
    | none => rw [hn, hby] at hr; cases hr
    | some by' =>
      cases hzt : zerosT X ts[1]? with
      | none => rw [hn, hby, hzt] at hr; cases hr
      | some zeros =>
      cases hzv : zeroV X e with
      | none => rw [hn, hby, hzt, hzv] at hr; cases hr
      | some z =>
      simp only [hn, hby, hzt, hzv, Option.bind_some] at hr
      split at hr
      · cases hr
      · rename_i hcond
        simp only [Bool.or_eq_true, decide_eq_true_eq, not_or, bne_iff_ne, ne_eq, Decidable.not_not, Bool.not_eq_true', Bool.not_eq_false] at hcond
        obtain ⟨⟨⟨⟨hzeros, hsz0⟩, hby0⟩, hzl⟩, hzs⟩ := hcond
        have hzf : zeros = false := by simpa using hzeros
        subst hzf
        cases hsrc : srcCells H x with
        | none => rw [hsrc] at hr; cases hr
        | some y =>
          obtain ⟨n, new, rd⟩ := y
          simp only [hsrc, Option.bind_some] at hr
          split at hr
          · cases hr
          · rename_i hcond
            simp only [Bool.not_eq_true', Bool.not_eq_false, Bool.and_eq_true, decide_eq_true_eq, Bool.or_eq_true, Bool.not_eq_eq_eq_not, Bool.not_true] at hcond
            obtain ⟨⟨hlen, hall⟩, hstr⟩ := hcond
            have hone : ∀ t, x = .str t → sz = 1 := by
              intro t e1
              subst e1
              rcases hstr with h1 | h1
              · exact h1
              · simp [isStr] at h1
            obtain ⟨hl, hcells⟩ := firstCells_run h hx hsrc hlen X.P
            obtain ⟨ns, hns, hnr⟩ := hcells n (Nat.le_refl _) hone
            rw [List.take_of_length_le (Nat.le_of_eq hlen)] at hnr
            have hnlen := hnr.length
            -- behind nothing
            have empty : ∀ (base : Option Addr), cs = .slice base 0 0 → (n = 0 → ∃ w', (Builtin.append_ ts ty #[cs, cx]).run X.P w = .ok (.slice base 0 0) w' ∧ w' = w) ∧
                (n ≠ 0 → (2 * (0 + n) + 1000) * by' ≤ maxBytes → ∃ c w', (Builtin.append_ ts ty #[cs, cx]).run X.P w = .ok c w' ∧ ∃ M' ρ', HRel B w' M' ρ' (H.put (fresh 0) (some (.row new true 0))) ∧ VRel M' ρ' (.msl (fresh 0) 0 0 sz n) c ∧ Evo w M ρ H w' M' ρ' (H.put (fresh 0) (some (.row new true 0))) ∧ ρ.le ρ' ∧ ∀ s, Tagged X st ρ ρ' s (.msl (fresh 0) 0 0 sz n)) := by
              intro base hbase
              subst hbase
              refine ⟨fun h0 => ?_, fun h0 hok => ?_⟩
              · subst h0
                have hns0 : ns = [] := List.length_eq_zero_iff.1 (by omega)
                refine ⟨w, ?_, rfl⟩
                exact append_stay (sLen := 0) (sCap := 0) (n := 0) (ns := ns) hst hu hn hzt hl (hns w rfl) (by omega) (by cases base <;> first | rfl | (subst hns0; rfl))
              · obtain ⟨cap, rest, h1, h2, h3⟩ := append_grow (ts := ts) (ty := ty) (base := base) (sLen := 0) (sCap := 0) (os := []) hst hu hn hby hby0 hzt hzv hzl hzs hl hns
                  (fun w' _ => by cases base <;> simp [Builtin.firstCells, loadCells, loadCellsFrom]) (by simp) (by omega) (by omega) hok
                obtain ⟨g1, g2⟩ := h.pass (Kept.drew w)
                obtain ⟨ρ', k1, k2, k3, k4⟩ := HRel.layT (some (e, ([] ++ ns ++ rest).toArray.size)) g1 hf new ([] ++ ns ++ rest).toArray e (0, 0) (fun j v hj => by
                  obtain ⟨y, hy, hyr⟩ := hnr.get hj
                  refine ⟨y, ?_, hyr⟩
                  simp only [List.nil_append, List.getElem?_toArray]
                  rw [List.getElem?_append_left]
                  · exact hy
                  · rcases Nat.lt_or_ge j ns.length with h1 | h1
                    · exact h1
                    · rw [List.getElem?_eq_none h1] at hy; cases hy) (fun j _ hj => by omega) (fun t ht => by cases ht; rfl)
                refine ⟨_, _, h3, M, ρ', k1, ?_, g2.trans k2, k3, fun s => ⟨_, k4, rfl, .inl ⟨e, _, hu, rfl⟩⟩⟩
                unfold VRel
                refine ⟨_, _, _, k4, Nat.le_refl _, by omega, by rw [Nat.zero_add]; rfl, by omega, fun _ => ⟨.inr rfl, ?_⟩⟩
                simp only [List.size_toArray]
                omega
            split at hr
            · unfold VRel at hs
              obtain ⟨e1, e2⟩ := empty none hs
              split at hr
              · rename_i h0
                simp only [Option.some.injEq] at hr; subst hr
                obtain ⟨w', h1, rfl⟩ := e1 h0
                exact ⟨_, _, h1, M, ρ, h, by unfold VRel; rfl, Evo.refl _ _ _ _, Rho.le_refl _, trivial⟩
              · rename_i h0
                split at hr
                · rename_i hok
                  simp only [decide_eq_true_eq] at hok
                  simp only [Option.some.injEq] at hr; subst hr
                  obtain ⟨c, w', g1, M', ρ', g2, g3, g4, g5, g6⟩ := e2 h0 hok
                  exact ⟨c, w', g1, M', ρ', g2, g3, g4, g5, g6 _⟩
                · cases hr
            · unfold VRel at hs
              obtain ⟨ad, had⟩ := hs
              obtain ⟨e1, e2⟩ := empty (some ad) had
              split at hr
              · rename_i h0
                simp only [Option.some.injEq] at hr; subst hr
                obtain ⟨w', h1, rfl⟩ := e1 h0
                exact ⟨_, _, h1, M, ρ, h, by unfold VRel; exact ⟨_, rfl⟩, Evo.refl _ _ _ _, Rho.le_refl _, trivial⟩
              · rename_i h0
                split at hr
                · rename_i hok
                  simp only [decide_eq_true_eq] at hok
                  simp only [Option.some.injEq] at hr; subst hr
                  obtain ⟨c, w', g1, M', ρ', g2, g3, g4, g5, g6⟩ := e2 h0 hok
                  exact ⟨c, w', g1, M', ρ', g2, g3, g4, g5, g6 _⟩
                · cases hr
            · rename_i b ver off sz' len
              cases hro : rowOf H b ver with
              | none => rw [hro] at hr; cases hr
              | some y =>
                obtain ⟨row, mu⟩ := y
                simp only [hro, Option.bind_some, Bool.and_eq_true, decide_eq_true_eq] at hr
                split at hr
                · rename_i hcond
                  obtain ⟨⟨⟨hmu, rfl⟩, hle⟩, hok⟩ := hcond
                  subst hmu
                  simp only [Option.some.injEq] at hr; subst hr
                  simp only [putAll_one]
                  unfold VRel at hs
                  obtain ⟨p, ad, cap, hpb, hve, h1, rfl, hlc, hp⟩ := hs
                  obtain ⟨p', hp', hpv, hbr, hci⟩ := row_at h hro
                  rw [hpb] at hp'; cases hp'
                  obtain ⟨had, hpc⟩ := hp hpv.symm
                  by_cases hroom : len + n ≤ cap
                  · -- where it is
                    obtain ⟨k0, ρ', k1, k2, k3, k4⟩ := HRel.regrowHere h (rowOf_some hro) hpb (o := off) (n := len * sz') (new := new) (xs := ns) (cap := p.cap - off) hle (by have := Nat.le_trans (Nat.le_add_right off _) hpc; omega) (by have h1 : (len + n) * sz' ≤ cap * sz' := Nat.mul_le_mul_right _ hroom; rw [Nat.add_mul] at h1; omega) hnr hall X.P
                    have hst' : (storeCells (ad.add (len * sz')) ns).run X.P w = .ok () (w.setCells p.block (p.off + off + len * sz') ns) := by
                      rcases had with h0 | h0
                      · have hn0 : n = 0 := by omega
                        subst hn0
                        have : ns = [] := List.length_eq_zero_iff.1 (by omega)
                        subst this; rfl
                      · rw [h0, add_none _ _ rfl]; exact k0
                    refine ⟨_, _, append_stay hst hu hn hzt hl (hns w rfl) hroom hst', M, ρ', k1, ?_, k2, k3, ⟨_, k4, rfl, .inr ⟨b, ver, off, sz', len, p, rfl, hpb, hpv, rfl, by by_cases h0 : off = 0 <;> simp [h0]⟩⟩⟩
                    unfold VRel
                    refine ⟨_, _, _, k4, Nat.le_refl _, h1, rfl, hroom, fun _ => ⟨?_, by simp only; omega⟩⟩
                    rcases had with h0 | h0
                    · exact .inl h0
                    · right; rw [h0]; simp
                  · -- elsewhere
                    have hold : ∃ os : List Value, (∀ w' : World, w'.heap = w.heap → (Builtin.firstCells sz' len (.slice (some ad) len cap)).run X.P w' = .ok os.toArray w') ∧ LRel M ρ ((row.drop off).take (len * sz')) os := by
                      rcases had with h0 | h0
                      · have hl0 : len = 0 := by omega
                        subst hl0
                        exact ⟨[], fun _ _ => by simp [Builtin.firstCells, loadCells, loadCellsFrom], by simp; unfold LRel; rfl⟩
                      · obtain ⟨os, ho1, ho2⟩ := run_loadCellsAll (a := ad) (by rw [h0]) (cs := (row.drop off).take (len * sz')) (by rw [h0]; exact (hci.drop off).take _) X.P
                        have : ((row.drop off).take (len * sz')).length = len * sz' := by simp; omega
                        rw [this] at ho1
                        exact ⟨os, fun w' hw => by simp only [Builtin.firstCells]; exact ho1 w' hw, ho2⟩
                    obtain ⟨os, ho1, ho2⟩ := hold
                    have hol := ho2.length
                    have hol' : os.length = len * sz' := by rw [← hol]; simp; omega
                    obtain ⟨ncap, rest, g1, g2, g3⟩ := append_grow (ts := ts) (ty := ty) hst hu hn hby hby0 hzt hzv hzl hzs hl hns ho1 hol' (by omega) (by omega) hok
                    obtain ⟨ρ', k1, k2, k3, k4⟩ := HRel.regrow h (rowOf_some hro) hpb (cs' := (row.drop off).take (len * sz') ++ new) (xs := (os ++ ns ++ rest).toArray) (by
                      have e1 : ((row.drop off).take (len * sz') ++ new).length = (os ++ ns).length := by simp only [List.length_append]; omega
                      rw [e1]
                      have e2 : (os ++ ns ++ rest).toArray.toList.take (os ++ ns).length = os ++ ns := List.take_left' rfl
                      rw [e2]
                      exact LRel.append ho2 hnr) (by simp only [List.length_append, List.size_toArray]; omega) e w.drew rfl rfl rfl rfl
                    refine ⟨_, _, g3, M, ρ', k1, ?_, k2, k3, ⟨_, k4, rfl, .inl ⟨e, _, hu, rfl⟩⟩⟩
                    unfold VRel
                    refine ⟨_, _, _, k4, Nat.le_refl _, h1, rfl, g1, fun _ => ⟨.inr rfl, ?_⟩⟩
                    simp only [List.size_toArray]
                    omega
                · cases hr
            · cases hr
theorem append_run (h : HRel B w M ρ H) {ts : Array TypeId} {ty : TypeId} {st : TypeId} (hst : ts[0]? = some st) {s x : V} {cs cx : Value} (hs : VRel M ρ s cs) (hx : VRel M ρ x cx) {fresh : Nat → Nat} (hf : H.get (fresh 0) = none)
    (hr : appendT X st (ts[1]?) s x fresh H = some r) : ∃ c w', (Builtin.append_ ts ty #[cs, cx]).run X.P w = .ok c w' ∧ OpPost B w M ρ H r.v (putAll H r.wr) c w' := by
  have plain : appendV X st (ts[1]?) s x fresh H = some r → ∃ c w', (Builtin.append_ ts ty #[cs, cx]).run X.P w = .ok c w' ∧ OpPost B w M ρ H r.v (putAll H r.wr) c w' := fun hr => by
    obtain ⟨c, w', g1, M', ρ', g2, g3, g4, g5, _⟩ := append_runT h (ty := ty) hst hs hx hf hr
    exact ⟨c, w', g1, M', ρ', g2, g3, g4, g5⟩
  unfold appendT at hr
  split at hr
  · -- a nil that bears its type
    cases hr1 : appendV X st (ts[1]?) .nilsl x fresh H with
    | none => rw [hr1] at hr; cases hr
    | some r1 =>
      rw [hr1] at hr
      split at hr
      case h_2 => cases hr
      rename_i r2 e he2 hu
      cases he2
      have hs' : VRel M ρ .nilsl cs := by unfold VRel at *; exact hs
      obtain ⟨c, w', g1, M', ρ', g2, g3, g4, g5, g6⟩ := append_runT h (ty := ty) hst hs' hx hf hr1
      split at hr
      · rename_i hv
        cases hr
        rw [hv] at g3
        exact ⟨c, w', g1, M', ρ', g2, by unfold VRel at *; exact g3, g4, g5⟩
      · rename_i b ver n hv
        cases hr
        rw [hv] at g3 g6
        obtain ⟨p', q1, q2, q3⟩ := g6
        refine ⟨c, w', g1, M', ρ', g2, ?_, g4, g5⟩
        unfold VRel at g3 ⊢
        obtain ⟨p, a, cap, k1, k2, k3, k4, k5, k6⟩ := g3
        rw [q1] at k1; cases k1
        refine ⟨_, a, cap, q1, k2, k4, k5, fun e1 => ?_⟩
        obtain ⟨k7, k8⟩ := k6 e1
        refine ⟨⟨k7, by omega⟩, ?_⟩
        rcases q3 with ⟨e', n', hu', ht⟩ | ⟨b0, ver0, o0, sz0, len0, p0, hs0, _⟩
        · rw [hu] at hu'; cases hu'
          exact ⟨n', ht⟩
        · cases hs0
      · cases hr
  · rename_i t b ver len
    cases hr1 : appendV X st (ts[1]?) (.msl b ver 0 1 len) x fresh H with
    | none => rw [hr1] at hr; cases hr
    | some r1 =>
      rw [hr1] at hr
      split at hr
      case h_2 => cases hr
      rename_i r2 e he2 hu
      cases he2
      split at hr
      case isFalse => cases hr
      rename_i het
      subst het
      have hs0 := hs
      unfold VRel at hs0
      obtain ⟨p0, a0, cap0, s1, s2, s3, s4, s5⟩ := hs0
      have hs' : VRel M ρ (.msl b ver 0 1 len) cs := by
        unfold VRel
        exact ⟨p0, a0, cap0, s1, s2, Nat.le_refl _, s3, s4, fun e1 => by
          obtain ⟨⟨s6, s7⟩, _⟩ := s5 e1
          exact ⟨s6, by omega⟩⟩
      obtain ⟨c, w', g1, M', ρ', g2, g3, g4, g5, g6⟩ := append_runT h (ty := ty) hst hs' hx hf hr1
      split at hr
      · rename_i b' ver' n hv
        cases hr
        rw [hv] at g3 g6
        obtain ⟨p', q1, q2, q3⟩ := g6
        refine ⟨c, w', g1, M', ρ', g2, ?_, g4, g5⟩
        unfold VRel at g3 ⊢
        obtain ⟨p, a, cap, k1, k2, k3, k4, k5, k6⟩ := g3
        rw [q1] at k1; cases k1
        refine ⟨_, a, cap, q1, k2, k4, k5, fun e1 => ?_⟩
        obtain ⟨k7, k8⟩ := k6 e1
        refine ⟨⟨k7, by omega⟩, ?_⟩
        rcases q3 with ⟨e', n', hu', ht⟩ | ⟨b1, ver1, o1, sz1, len1, p1, hs1, hp1, hv1, _, ht⟩
        · rw [hu] at hu'; cases hu'
          exact ⟨n', ht⟩
        · cases hs1
          rw [s1] at hp1; cases hp1
          rw [if_pos rfl] at ht
          obtain ⟨_, n1, h1⟩ := s5 hv1.symm
          exact ⟨n1, ht.trans h1⟩
      · cases hr
  · exact plain hr
end
end Go.Ev
/- Built-ins, on. -/
set_option linter.unusedSectionVars false
set_option linter.unusedSimpArgs false
set_option linter.unusedVariables false
namespace Go.Ev
open Go
section
variable {X : Ctx} {B : Mem} {w : World} {M : Mem} {ρ : Rho} {H : Heap} {tm : List V} {a : Act} {o : Oper} {r : Res}

theorem copy_run (h : HRel B w M ρ H) {ts : Array TypeId} {ty : TypeId} {st : TypeId} (hst : ts[0]? = some st) {s x : V} {cs cx : Value} (hs : VRel M ρ s cs) (hx : VRel M ρ x cx)
    (hr : copyV X st s x H = some r) : ∃ c w', (Builtin.copy_ ts ty #[cs, cx]).run X.P w = .ok c w' ∧ OpPost B w M ρ H r.v (putAll H r.wr) c w' := by
  unfold copyV at hr
  cases hu : und X st with
  | none => simp [hu] at hr
  | some dd =>
    cases dd <;> simp only [hu, Option.bind_eq_bind, Option.bind_some, reduceCtorEq] at hr
    rename_i e
    cases hn : size X e with
    | none => rw [hn] at hr; cases hr
    | some sz =>
      simp only [hn, Option.bind_some] at hr
      cases hsrc : srcCells H x with
      | none => rw [hsrc] at hr; cases hr
      | some y =>
        obtain ⟨n, src, rd⟩ := y
        simp only [hsrc, Option.bind_some] at hr
        split at hr
        · cases hr
        · rename_i hcond
          simp only [Bool.not_eq_true', Bool.not_eq_false, Bool.and_eq_true, decide_eq_true_eq, Bool.or_eq_true, Bool.not_eq_eq_eq_not, Bool.not_true] at hcond
          obtain ⟨⟨hlen, h1⟩, hstr⟩ := hcond
          have hone : ∀ t, x = .str t → sz = 1 := by
            intro t e1
            subst e1
            rcases hstr with h1 | h1
            · exact h1
            · simp [isStr] at h1
          obtain ⟨hl, hcells⟩ := firstCells_run h hx hsrc hlen X.P
          have run : ∀ (base : Option Addr) (dLen dCap : Nat) (ns : List Value) (w' : World), (∀ w' : World, w'.heap = w.heap → (Builtin.firstCells sz (Nat.min n dLen) cx).run X.P w' = .ok ns.toArray w') →
              (match base with | some ad => (storeCells ad ns).run X.P w = .ok () w' | none => w' = w) →
              (Builtin.copy_ ts ty #[.slice base dLen dCap, cx]).run X.P w = .ok (goInt (Nat.min n dLen)) w' := by
            intro base dLen dCap ns w' hns hst2
            unfold Builtin.copy_
            simp only [hst, List.getElem?_toArray, List.getElem?_cons_zero, List.getElem?_cons_succ, Sem.run_bind, run_und hu, Result.andThen_ok, hl, run_size hn, hns w rfl]
            cases base with
            | none => simp only at hst2; subst hst2; rfl
            | some ad => simp only at hst2; simp only [Sem.run_bind, hst2, Result.andThen_ok, Sem.run_pure]
          split at hr
          · unfold VRel at hs; subst hs
            simp only [Option.some.injEq] at hr; subst hr
            have hm : Nat.min n 0 = 0 := Nat.min_zero n
            obtain ⟨ns, hns, hnr⟩ := hcells (Nat.min n 0) (by omega) hone
            refine ⟨_, _, run none 0 0 ns w hns rfl, OpPost.same h (by rw [hm]; unfold VRel; rfl)⟩
          · unfold VRel at hs
            obtain ⟨ad, rfl⟩ := hs
            simp only [Option.some.injEq] at hr; subst hr
            have hm : Nat.min n 0 = 0 := Nat.min_zero n
            obtain ⟨ns, hns, hnr⟩ := hcells (Nat.min n 0) (by omega) hone
            have hn0 : ns = [] := by
              have := hnr.length
              rw [hm] at this
              simp at this
              exact List.length_eq_zero_iff.1 this.symm
            subst hn0
            refine ⟨_, _, run (some ad) 0 0 [] w hns rfl, OpPost.same h (by rw [hm]; unfold VRel; rfl)⟩
          · rename_i b ver off sz' len
            cases hro : rowOf H b ver with
            | none => rw [hro] at hr; cases hr
            | some y =>
              obtain ⟨row, mu⟩ := y
              simp only [hro, Option.bind_some, Bool.and_eq_true, decide_eq_true_eq] at hr
              split at hr
              · rename_i hcond
                obtain ⟨⟨⟨hmu, rfl⟩, hle⟩, hall⟩ := hcond
                subst hmu
                simp only [Option.some.injEq] at hr; subst hr
                simp only [putAll_one]
                unfold VRel at hs
                obtain ⟨p, ad, cap, hpb, hve, _, rfl, hlc, hp⟩ := hs
                obtain ⟨p', hp', hpv, hbr, hci⟩ := row_at h hro
                rw [hpb] at hp'; cases hp'
                obtain ⟨had, hpc⟩ := hp hpv.symm
                obtain ⟨ns, hns, hnr⟩ := hcells (Nat.min n len) (Nat.min_le_left _ _) hone
                have hml := Nat.mul_le_mul_right sz' (Nat.min_le_right n len)
                have hmn := Nat.mul_le_mul_right sz' (Nat.min_le_left n len)
                have htl : (src.take (Nat.min n len * sz')).length = Nat.min n len * sz' := by
                  rw [List.length_take, hlen]; exact Nat.min_eq_left hmn
                obtain ⟨k0, ρ', k1, k2, k3⟩ := HRel.write h (rowOf_some hro) hpb (o := off) (new := src.take (Nat.min n len * sz')) (xs := ns) (by
                  rw [htl]
                  exact Nat.le_trans (Nat.add_le_add_left hml off) hle) hnr hall X.P
                have hst' : (storeCells ad ns).run X.P w = .ok () (w.setCells p.block (p.off + off) ns) := by
                  rcases had with h0 | h0
                  · have hl0 : len = 0 := by omega
                    have : ns = [] := by
                      have := hnr.length
                      rw [htl, hl0] at this
                      have hm : Nat.min n 0 = 0 := Nat.min_zero n
                      rw [hm] at this
                      exact List.length_eq_zero_iff.1 (by omega)
                    subst this; rfl
                  · rw [h0]; exact k0
                exact ⟨_, _, run (some ad) len cap ns _ hns hst', M, ρ', k1, by unfold VRel; rfl, k2, k3⟩
              · cases hr
          · cases hr

theorem clear_run (h : HRel B w M ρ H) {ts : Array TypeId} {ty : TypeId} {st : TypeId} (hst : ts[0]? = some st) {s : V} {cs : Value} (hs : VRel M ρ s cs)
    (hr : clearV X st s H = some r) : ∃ c w', (Builtin.clear_ ts ty #[cs]).run X.P w = .ok c w' ∧ OpPost B w M ρ H r.v (putAll H r.wr) c w' := by
  unfold clearV at hr
  cases hu : und X st with
  | none => simp [hu] at hr
  | some dd =>
    cases dd <;> simp only [hu, Option.bind_eq_bind, Option.bind_some, reduceCtorEq] at hr
    rename_i e
    cases hn : size X e with
    | none => rw [hn] at hr; cases hr
    | some sz =>
    cases hzv : zeroV X e with
    | none => rw [hn, hzv] at hr; cases hr
    | some z =>
      simp only [hn, hzv, Option.bind_some] at hr
      have idle : ∀ (base : Option Addr) (n k : Nat), base = none ∨ n = 0 → (Builtin.clear_ ts ty #[.slice base n k]).run X.P w = .ok (.tuple #[]) w := by
        intro base n k hb
        unfold Builtin.clear_
        simp only [hst, List.getElem?_toArray, List.getElem?_cons_zero, Sem.run_bind, run_und hu, Result.andThen_ok]
        rcases hb with rfl | rfl
        · rfl
        · cases base <;> rfl
      split at hr
      · unfold VRel at hs; subst hs
        simp only [Option.some.injEq] at hr; subst hr
        exact ⟨_, _, idle none 0 0 (.inl rfl), OpPost.same h (by unfold VRel; trivial)⟩
      · unfold VRel at hs; obtain ⟨ad, rfl⟩ := hs
        simp only [Option.some.injEq] at hr; subst hr
        exact ⟨_, _, idle _ 0 0 (.inr rfl), OpPost.same h (by unfold VRel; trivial)⟩
      · rename_i b ver off sz' len
        cases hro : rowOf H b ver with
        | none => rw [hro] at hr; cases hr
        | some y =>
          obtain ⟨row, mu⟩ := y
          simp only [hro, Option.bind_some, Bool.and_eq_true, decide_eq_true_eq] at hr
          split at hr
          · rename_i hcond
            obtain ⟨⟨⟨⟨hmu, rfl⟩, hzl⟩, hle⟩, hall⟩ := hcond
            subst hmu
            simp only [Option.some.injEq] at hr; subst hr
            simp only [putAll_one]
            unfold VRel at hs
            obtain ⟨p, ad, cap, hpb, hve, h1, rfl, hlc, hp⟩ := hs
            obtain ⟨p', hp', hpv, hbr, hci⟩ := row_at h hro
            rw [hpb] at hp'; cases hp'
            obtain ⟨had, hpc⟩ := hp hpv.symm
            by_cases hl0 : len = 0
            · subst hl0
              obtain ⟨k0, ρ', k1, k2, k3⟩ := HRel.write h (rowOf_some hro) hpb (o := off) (new := (List.replicate 0 z.cells).flatten) (xs := []) (by simpa using hle) (by simp; unfold LRel; rfl) hall X.P
              exact ⟨_, _, idle _ 0 _ (.inr rfl), M, ρ', k1, by unfold VRel; trivial, k2, k3⟩
            · obtain ⟨zc, hzc, hzr⟩ := run_zero hzv w
              have hzs : z.cells.all V.scalar = true := by
                obtain ⟨m, rfl⟩ : ∃ m, len = m + 1 := ⟨len - 1, by omega⟩
                rw [List.replicate_succ, List.flatten_cons, List.all_append] at hall
                simp only [Bool.and_eq_true] at hall
                exact hall.1
              obtain ⟨hcells, hsz⟩ := (hzr M ρ).cells hzs
              have hrep := zeroCells_rel hcells (by omega) len
              have hlen : (List.replicate len z.cells).flatten.length = len * sz' := by simp [hzl]
              obtain ⟨k0, ρ', k1, k2, k3⟩ := HRel.write h (rowOf_some hro) hpb (o := off) (by rw [hlen]; exact hle) hrep hall X.P
              have hst' : (storeCells ad (Builtin.zeroCells zc.cells len).toList).run X.P w = .ok () (w.setCells p.block (p.off + off) (Builtin.zeroCells zc.cells len).toList) := by
                rcases had with h0 | h0
                · omega
                · rw [h0]; exact k0
              refine ⟨.tuple #[], _, ?_, M, ρ', k1, by unfold VRel; trivial, k2, k3⟩
              unfold Builtin.clear_
              simp only [hst, List.getElem?_toArray, List.getElem?_cons_zero, Sem.run_bind, run_und hu, Result.andThen_ok]
              obtain ⟨m, rfl⟩ : ∃ m, len = m + 1 := ⟨len - 1, by omega⟩
              simp only [Sem.run_bind, hzc, Result.andThen_ok, hst', Sem.run_pure]
          · cases hr
      · rename_i sz2 cs2
        unfold VRel at hs
        obtain ⟨ad, cap, rfl, _⟩ := hs
        simp only [Option.some.injEq] at hr; subst hr
        exact ⟨_, _, idle _ 0 _ (.inr rfl), OpPost.same h (by unfold VRel; trivial)⟩
      · cases hr

theorem len_run (h : HRel B w M ρ H) {ts : Array TypeId} {ty : TypeId} {t : TypeId} (hst : ts[0]? = some t) {x : V} {c : Value} (hx : VRel M ρ x c) (hr : lenV X t x H = some r) :
    r.wr = [] ∧ ∃ c', (Builtin.len_ ts ty #[c]).run X.P w = .ok c' w ∧ VRel M ρ r.v c' := by
  unfold lenV at hr
  cases hu : und X t with
  | none => simp [hu] at hr
  | some d =>
    simp only [hu, Option.bind_eq_bind, Option.bind_some] at hr
    split at hr
    · simp only [Option.some.injEq] at hr; subst hr
      unfold VRel at hx
      obtain ⟨bs, rfl, hbs⟩ := hx
      have hsz : bs.size = bs.data.toList.length := by rw [Array.length_toList]; rfl
      refine ⟨rfl, goInt bs.size, by unfold Builtin.len_; simp only [hst, List.getElem?_toArray, List.getElem?_cons_zero, Sem.run_bind, run_und hu, Result.andThen_ok, Sem.run_pure]; first | done | rfl, ?_⟩
      unfold VRel
      rw [hsz, hbs]; rfl
    · simp only [Option.some.injEq] at hr; subst hr
      exact ⟨rfl, _, by unfold Builtin.len_; simp only [hst, List.getElem?_toArray, List.getElem?_cons_zero, Sem.run_bind, run_und hu, Result.andThen_ok, Sem.run_pure]; first | done | rfl, by unfold VRel; rfl⟩
    · rename_i ar
      cases hu2 : und X ar with
      | none => simp [hu2] at hr
      | some d2 =>
        cases d2 <;> simp only [hu2, Option.some.injEq, reduceCtorEq] at hr
        subst hr
        exact ⟨rfl, _, by unfold Builtin.len_; simp only [hst, List.getElem?_toArray, List.getElem?_cons_zero, Sem.run_bind, run_und hu, run_und hu2, Result.andThen_ok, Sem.run_pure]; first | done | rfl, by unfold VRel; rfl⟩
    · simp only [Option.some.injEq] at hr; subst hr
      unfold VRel at hx; subst hx
      exact ⟨rfl, goInt 0, by unfold Builtin.len_; simp only [hst, List.getElem?_toArray, List.getElem?_cons_zero, Sem.run_bind, run_und hu, Result.andThen_ok, Sem.run_pure]; first | done | rfl, by unfold VRel; rfl⟩
    · simp only [Option.some.injEq] at hr; subst hr
      unfold VRel at hx; obtain ⟨ad, rfl⟩ := hx
      exact ⟨rfl, goInt 0, by unfold Builtin.len_; simp only [hst, List.getElem?_toArray, List.getElem?_cons_zero, Sem.run_bind, run_und hu, Result.andThen_ok, Sem.run_pure]; first | done | rfl, by unfold VRel; rfl⟩
    · simp only [Option.some.injEq] at hr; subst hr
      unfold VRel at hx; obtain ⟨ad, cap, rfl, _⟩ := hx
      exact ⟨rfl, _, by unfold Builtin.len_; simp only [hst, List.getElem?_toArray, List.getElem?_cons_zero, Sem.run_bind, run_und hu, Result.andThen_ok, Sem.run_pure]; first | done | rfl, by unfold VRel; rfl⟩
    · simp only [Option.some.injEq] at hr; subst hr
      unfold VRel at hx; obtain ⟨p, ad, cap, _, _, _, rfl, _⟩ := hx
      exact ⟨rfl, _, by unfold Builtin.len_; simp only [hst, List.getElem?_toArray, List.getElem?_cons_zero, Sem.run_bind, run_und hu, Result.andThen_ok, Sem.run_pure]; first | done | rfl, by unfold VRel; rfl⟩
    · simp only [Option.some.injEq] at hr; subst hr
      unfold VRel at hx; subst hx
      exact ⟨rfl, goInt 0, by unfold Builtin.len_; simp only [hst, List.getElem?_toArray, List.getElem?_cons_zero, Sem.run_bind, run_und hu, Result.andThen_ok, Sem.run_pure]; first | done | rfl, by unfold VRel; rfl⟩
    · rename_i b
      cases hm : mapOf H b with
      | none => rw [hm] at hr; cases hr
      | some es =>
        simp only [hm, Option.bind_some, Option.some.injEq] at hr; subst hr
        unfold VRel at hx
        obtain ⟨p, hp, _, rfl⟩ := hx
        obtain ⟨p', ces, clock, hp', _, hb, hes, _⟩ := map_at h hm
        rw [hp] at hp'; cases hp'
        refine ⟨rfl, goInt ces.size, by unfold Builtin.len_; simp only [hst, List.getElem?_toArray, List.getElem?_cons_zero, Sem.run_bind, run_und hu, Result.andThen_ok, run_getMap hb, Sem.run_pure]; first | done | rfl, ?_⟩
        unfold VRel
        have := hes.length
        simp only [Array.length_toList] at this
        rw [this]; rfl
    · cases hr

theorem cap_run {ts : Array TypeId} {ty : TypeId} {t : TypeId} (hst : ts[0]? = some t) {x : V} {c : Value} (hx : VRel M ρ x c) (hr : capV X t x = some r) :
    r.wr = [] ∧ ∃ c', (Builtin.cap_ ts ty #[c]).run X.P w = .ok c' w ∧ VRel M ρ r.v c' := by
  unfold capV at hr
  cases hu : und X t with
  | none => simp [hu] at hr
  | some d =>
    simp only [hu, Option.bind_eq_bind, Option.bind_some] at hr
    split at hr
    · simp only [Option.some.injEq] at hr; subst hr
      unfold VRel at hx; subst hx
      exact ⟨rfl, goInt 0, by unfold Builtin.cap_; simp only [hst, List.getElem?_toArray, List.getElem?_cons_zero, Sem.run_bind, run_und hu, Result.andThen_ok, Sem.run_pure]; first | done | rfl, by unfold VRel; rfl⟩
    · simp only [Option.some.injEq] at hr; subst hr
      unfold VRel at hx; obtain ⟨ad, rfl⟩ := hx
      exact ⟨rfl, goInt 0, by unfold Builtin.cap_; simp only [hst, List.getElem?_toArray, List.getElem?_cons_zero, Sem.run_bind, run_und hu, Result.andThen_ok, Sem.run_pure]; first | done | rfl, by unfold VRel; rfl⟩
    · simp only [Option.some.injEq] at hr; subst hr
      exact ⟨rfl, _, by unfold Builtin.cap_; simp only [hst, List.getElem?_toArray, List.getElem?_cons_zero, Sem.run_bind, run_und hu, Result.andThen_ok, Sem.run_pure]; first | done | rfl, by unfold VRel; rfl⟩
    · rename_i ar
      cases hu2 : und X ar with
      | none => simp [hu2] at hr
      | some d2 =>
        cases d2 <;> simp only [hu2, Option.some.injEq, reduceCtorEq] at hr
        subst hr
        exact ⟨rfl, _, by unfold Builtin.cap_; simp only [hst, List.getElem?_toArray, List.getElem?_cons_zero, Sem.run_bind, run_und hu, run_und hu2, Result.andThen_ok, Sem.run_pure]; first | done | rfl, by unfold VRel; rfl⟩
    · cases hr

theorem min_fold (mx : Bool) (P : Program) (w : World) : ∀ {l : List V} {cl : List Value} {x v : V} {cx : Value}, l.foldlM (fun a b => match a, b with
    | .int k x, .int _ y => some (.int k (if (if mx then decide (y > x) else decide (y < x)) then y else x))
    | _, _ => none) x = some v → LRel M ρ l cl → VRel M ρ x cx →
    ∃ c, (cl.foldlM (if mx then Builtin.max2 else Builtin.min2) cx).run P w = .ok c w ∧ VRel M ρ v c
  | [], cl, x, v, cx, h, hl, hx => by
    unfold LRel at hl; subst hl
    simp only [List.foldlM_nil, Option.pure_def, Option.some.injEq] at h; subst h
    exact ⟨cx, rfl, hx⟩
  | y :: r, cl, x, v, cx, h, hl, hx => by
    unfold LRel at hl
    obtain ⟨cy, cr, rfl, hy, hr⟩ := hl
    simp only [List.foldlM_cons, Option.bind_eq_bind] at h
    cases x with
    | int k m =>
      cases y with
      | int k2 n =>
        simp only [Option.bind_some] at h
        unfold VRel at hx hy; subst hx; subst hy
        obtain ⟨c, h1, h2⟩ := min_fold mx P w (cx := .int k (if (if mx then decide (n > m) else decide (n < m)) then n else m)) h hr (by unfold VRel; rfl)
        refine ⟨c, ?_, h2⟩
        simp only [List.foldlM_cons, Sem.run_bind]
        cases mx
        · simp only [Bool.false_eq_true, if_false, Builtin.min2, Sem.run_pure, Result.andThen_ok] at h1 ⊢
          simpa using h1
        · simp only [if_true, Builtin.max2, Sem.run_pure, Result.andThen_ok] at h1 ⊢
          simpa using h1
      | _ => simp at h
    | _ => simp at h

theorem min_run (mx : Bool) {ts : Array TypeId} {ty : TypeId} {l : List V} {cl : Array Value} {v : V} (h : minV mx l = some v) (hl : LRel M ρ l cl.toList) (P : Program) (w : World) :
    ∃ c, (if mx then Builtin.max_ ts ty cl else Builtin.min_ ts ty cl).run P w = .ok c w ∧ VRel M ρ v c := by
  unfold minV at h
  split at h
  · cases h
  · rename_i x rest
    unfold LRel at hl
    obtain ⟨cx, cr, hcl, hx, hr⟩ := hl
    obtain ⟨c, h1, h2⟩ := min_fold mx P w h hr hx
    refine ⟨c, ?_, h2⟩
    cases mx
    · simp only [Bool.false_eq_true, if_false, Builtin.min_, hcl] at h1 ⊢; exact h1
    · simp only [if_true, Builtin.max_, hcl] at h1 ⊢; exact h1

/-- A built-in. -/
theorem op_builtin (hX : CtxOK X B) (h : HRel B w M ρ H) (ht : LRel M ρ tm a.tmps.toList) {c : Call} (ho : o.op = .call c) {b : Builtin} (hc : c.callee = .builtin b) {fresh : Nat → Nat} (hf : H.get (fresh 0) = none)
    (hr : builtinV X b c.argTypes (c.args.toList.map (opd X tm)) fresh H = some r) : StepTo X.P o a w (OpPost B w M ρ H r.v (putAll H r.wr)) := by
  have he := execOp_builtin (a := a) ho hc
  unfold builtinV at hr
  split at hr
  · rename_i st s x h1 h2
    obtain ⟨cs, cx, ha, hs, hx⟩ := args_two hX h ht h2
    obtain ⟨c', w', hrun, hp⟩ := append_run h (ty := o.type) h1 hs hx hf hr
    exact StepTo.val (s := Builtin.append_ c.argTypes o.type #[cs, cx]) (by rw [he, ha]; rfl) hrun hp
  · rename_i st s x h1 h2
    obtain ⟨cs, cx, ha, hs, hx⟩ := args_two hX h ht h2
    obtain ⟨c', w', hrun, hp⟩ := copy_run h (ty := o.type) h1 hs hx hr
    exact StepTo.val (s := Builtin.copy_ c.argTypes o.type #[cs, cx]) (by rw [he, ha]; rfl) hrun hp
  · rename_i st s h1 h2
    obtain ⟨cs, ha, hs⟩ := args_one hX h ht h2
    obtain ⟨c', w', hrun, hp⟩ := clear_run h (ty := o.type) h1 hs hr
    exact StepTo.val (s := Builtin.clear_ c.argTypes o.type #[cs]) (by rw [he, ha]; rfl) hrun hp
  · rename_i st s h1 h2
    obtain ⟨cs, ha, hs⟩ := args_one hX h ht h2
    obtain ⟨hw, c', hrun, hp⟩ := len_run h (ty := o.type) h1 hs hr
    rw [hw]
    exact StepTo.val (s := Builtin.len_ c.argTypes o.type #[cs]) (by rw [he, ha]; rfl) hrun (OpPost.same h hp)
  · rename_i st s h1 h2
    obtain ⟨cs, ha, hs⟩ := args_one hX h ht h2
    obtain ⟨hw, c', hrun, hp⟩ := cap_run (w := w) (ty := o.type) h1 hs hr
    rw [hw]
    exact StepTo.val (s := Builtin.cap_ c.argTypes o.type #[cs]) (by rw [he, ha]; rfl) hrun (OpPost.same h hp)
  · obtain ⟨v, hv, rfl⟩ := Option.map_eq_some_iff.1 hr
    have hl := opd_list hX h ht c.args.toList
    obtain ⟨c', hrun, hp⟩ := min_run (ts := c.argTypes) (ty := o.type) (cl := c.args.map a.eval) false hv (by rw [Array.toList_map]; exact hl) X.P w
    exact StepTo.val (s := Builtin.min_ c.argTypes o.type (c.args.map a.eval)) (by rw [he]; rfl) hrun (OpPost.same h hp)
  · obtain ⟨v, hv, rfl⟩ := Option.map_eq_some_iff.1 hr
    have hl := opd_list hX h ht c.args.toList
    obtain ⟨c', hrun, hp⟩ := min_run (ts := c.argTypes) (ty := o.type) (cl := c.args.map a.eval) true hv (by rw [Array.toList_map]; exact hl) X.P w
    exact StepTo.val (s := Builtin.max_ c.argTypes o.type (c.args.map a.eval)) (by rw [he]; rfl) hrun (OpPost.same h hp)
  · cases hr
end
end Go.Ev
/- A walk over a map, where the next entry is the only one that may come. -/
set_option linter.unusedSectionVars false
set_option linter.unusedSimpArgs false
set_option linter.unusedVariables false
namespace Go.Ev
open Go
section
variable {X : Ctx} {B : Mem} {w : World} {M : Mem} {ρ : Rho} {H : Heap} {tm : List V} {a : Act} {o : Oper} {r : Res}

theorem run_getMIter {w : World} {b : Nat} {om : Option Nat} {since last : Nat} {seen : Array Nat} (h : w.heap[b]? = some (.mapIter om since seen last)) (P : Program) : (getObj b).run P w = .ok (.mapIter om since seen last) w := by
  simp only [getObj, Sem.run, h]
theorem run_setMIter {w : World} {b : Nat} {om : Option Nat} {since last : Nat} {seen : Array Nat} {o : Obj} (h : w.heap[b]? = some (.mapIter om since seen last)) (P : Program) : (setObj b o).run P w = .ok () { w with heap := w.heap.setIfInBounds b o } := by
  simp only [setObj, Sem.run, h]

theorem EsRel.getBoth : ∀ {es : List (V × V)} {l : List MapEntry}, EsRel M ρ es l → ∀ {i : Nat} {k v : V}, es[i]? = some (k, v) → ∃ e, l[i]? = some e ∧ VRel M ρ k e.key ∧ VRel M ρ v e.val
  | [], l, h, i, k, v, hi => by simp at hi
  | (k', v') :: r, l, h, i, k, v, hi => by
    unfold EsRel at h
    obtain ⟨e', es, rfl, hk', hv', hr⟩ := h
    cases i with
    | zero => simp at hi; obtain ⟨rfl, rfl⟩ := hi; exact ⟨e', rfl, hk', hv'⟩
    | succ i => simp at hi; simpa using EsRel.getBoth hr hi
/-- An object is laid that leans on what lay. -/
theorem HRel.layObj2 (h : HRel B w M ρ H) {b : Nat} (hb : H.get b = none) (x : Blk) (o : Obj) (hx : x.isObj = true)
    (hr : ∀ ρ', ρ.le ρ' → ∀ w' : World, w'.heap[w.heap.size]? = some o → BlkRel w' M ρ' ⟨w.heap.size, 0, 0, 0, true, none⟩ x) :
    ∃ ρ', HRel B (w.alloc o) M ρ' (H.put b (some x)) ∧ Evo w M ρ H (w.alloc o) M ρ' (H.put b (some x)) ∧ ρ.le ρ' ∧ ρ' b = some ⟨w.heap.size, 0, 0, 0, true, none⟩ := by
  have hρ : ρ b = none := by
    have := h.dom b
    rw [hb] at this
    simpa using this
  have hkept : Kept (OwnB ρ H b) (ObjB ρ H b) w (w.alloc o) := by
    refine ⟨rfl, rfl, rfl, by simp, fun r hr _ _ => ?_, fun a hl _ => World.cell?_alloc_lt _ _ _ hl, fun a hl _ => World.frozen?_alloc_old _ _ _ (by have := cell_lt hl; omega), fun r hr => shape_alloc _ _ hr⟩
    show (w.heap.push _)[r]? = _
    rw [Array.getElem?_push, if_neg (by omega)]
  have hle : ρ.le (upd ρ b ⟨w.heap.size, 0, 0, 0, true, none⟩) := upd_le fun p hp => by rw [hρ] at hp; cases hp
  obtain ⟨h1, h2, h3⟩ := HRel.turn h b x ⟨w.heap.size, 0, 0, 0, true, none⟩ (fun p hp => by rw [hρ] at hp; cases hp) hkept
    (fun cs ver j e _ => by subst e; simp [Blk.isObj] at hx) (fun _ => .inr (Nat.le_refl _)) (hr _ hle _ Array.getElem?_push_size)
  exact ⟨_, h1, h2, h3, upd_same _ _ _⟩

variable (hX : CtxOK X B) (h : HRel B w M ρ H) (ht : LRel M ρ tm a.tmps.toList)
include hX h ht

theorem op_rangeMap {t : TypeId} {x : Operand} (ho : o.op = .range t x) {kt et : TypeId} (hu : und X t = some (.map kt et)) {m : Nat} (hx : opd X tm x = .map m) {es : List (V × V)} (hm : mapOf H m = some es) {b : Nat} (hb : H.get b = none) :
    StepTo X.P o a w (OpPost B w M ρ H (.iter b) (H.put b (some (.miter (.map m) es.length [] es.length)))) := by
  have hv := opd_rel hX h ht x
  rw [hx] at hv
  have hv0 := hv
  unfold VRel at hv
  obtain ⟨p, hp, hfix, hc⟩ := hv
  obtain ⟨p', ces, clock, hp', _, hbk, hes, hbo⟩ := map_at h hm
  rw [hp] at hp'; cases hp'
  have hlen : clock = es.length := by rw [hbo.1, hes.length, Array.length_toList]
  obtain ⟨ρ', h1, h2, h3, h4⟩ := HRel.layObj2 h hb (.miter (.map m) es.length [] es.length) (.mapIter (some p.block) clock #[] clock) rfl
    (fun ρ' hle w' hw => ⟨rfl, some p.block, by rw [hw, hlen], by rw [← hc]; exact VRel.mono (Mem.le_refl _) hle _ _ hv0⟩)
  refine StepTo.val (s := Instr.range t (a.eval x)) (by simp only [execOp, ho]) (c := .pointer (some ⟨w.heap.size, 0, none⟩)) (w' := w.alloc (.mapIter (some p.block) clock #[] clock)) ?_ ⟨M, ρ', h1, ?_, h2, h3⟩
  · simp only [Instr.range, Sem.run_bind, run_und hu, Result.andThen_ok, hc, Sem.run_pure, run_getMap hbk, run_newObj]
    rfl
  · unfold VRel; exact ⟨_, h4, rfl, rfl⟩
theorem op_rangeNil {t : TypeId} {x : Operand} (ho : o.op = .range t x) {kt et : TypeId} (hu : und X t = some (.map kt et)) (hx : opd X tm x = .nilmap) {b : Nat} (hb : H.get b = none) :
    StepTo X.P o a w (OpPost B w M ρ H (.iter b) (H.put b (some (.miter .nilmap 0 [] 0)))) := by
  have hv := opd_rel hX h ht x
  rw [hx] at hv
  unfold VRel at hv
  obtain ⟨ρ', h1, h2, h3, h4⟩ := HRel.layObj2 h hb (.miter .nilmap 0 [] 0) (.mapIter none 0 #[] 0) rfl
    (fun ρ' hle w' hw => ⟨rfl, none, hw, by unfold VRel; rfl⟩)
  refine StepTo.val (s := Instr.range t (a.eval x)) (by simp only [execOp, ho]) (c := .pointer (some ⟨w.heap.size, 0, none⟩)) (w' := w.alloc (.mapIter none 0 #[] 0)) ?_ ⟨M, ρ', h1, ?_, h2, h3⟩
  · simp only [Instr.range, Sem.run_bind, run_und hu, Result.andThen_ok, hv, Sem.run_pure, run_newObj]
    rfl
  · unfold VRel; exact ⟨_, h4, rfl, rfl⟩

omit hX h ht in
/-- The machine's candidates. -/
theorem cands_eq {ces : Array MapEntry} {clock : Nat} (hbo : Born ces clock) (since : Nat) (seen : List Nat) :
    ((if ((ces.filter fun e : MapEntry => !seen.toArray.contains e.born).filter fun e : MapEntry => decide (e.born < since)).isEmpty = true then #[none] else #[]) ++
      (((ces.filter fun e : MapEntry => !seen.toArray.contains e.born).filter fun e : MapEntry => decide (e.born < since)) ++ ((ces.filter fun e : MapEntry => !seen.toArray.contains e.born).filter fun e : MapEntry => decide (e.born ≥ since))).map some).toList =
      (cands ces.size since seen).map (Option.map fun i => (ces[i]?).getD default) := by
  have hl : ces.toList = (List.range ces.size).map fun i => (ces[i]?).getD default := by
    apply List.ext_getElem?
    intro i
    rw [List.getElem?_map, Array.getElem?_toList]
    rcases Nat.lt_or_ge i ces.size with hi | hi
    · rw [List.getElem?_range hi]; simp [hi]
    · rw [List.getElem?_eq_none (l := List.range ces.size) (by simpa using hi), Array.getElem?_eq_none hi]; rfl
  have hb : ∀ i ∈ List.range ces.size, ((ces[i]?).getD default).born = i := fun i hi => by
    have hi := List.mem_range.1 hi
    have : ces[i]? = some ces[i] := Array.getElem?_eq_getElem hi
    rw [this]
    exact hbo.2 i _ this
  have f1 : (ces.filter fun e : MapEntry => !seen.toArray.contains e.born).toList = ((List.range ces.size).filter fun i => !seen.contains i).map fun i => (ces[i]?).getD default := by
    rw [Array.toList_filter, hl, List.filter_map]
    congr 1
    refine List.filter_congr fun i hi => ?_
    simp only [Function.comp, hb i hi]
    simp
  have sub : ∀ i ∈ (List.range ces.size).filter fun i => !seen.contains i, ((ces[i]?).getD default).born = i := fun i hi => hb i (List.mem_filter.1 hi).1
  have f2 : ((ces.filter fun e : MapEntry => !seen.toArray.contains e.born).filter fun e : MapEntry => decide (e.born < since)).toList = (((List.range ces.size).filter fun i => !seen.contains i).filter fun i => decide (i < since)).map fun i => (ces[i]?).getD default := by
    rw [Array.toList_filter, f1, List.filter_map]
    congr 1
    refine List.filter_congr fun i hi => ?_
    simp only [Function.comp, sub i hi]
  have f3 : ((ces.filter fun e : MapEntry => !seen.toArray.contains e.born).filter fun e : MapEntry => decide (e.born ≥ since)).toList = (((List.range ces.size).filter fun i => !seen.contains i).filter fun i => decide (since ≤ i)).map fun i => (ces[i]?).getD default := by
    rw [Array.toList_filter, f1, List.filter_map]
    congr 1
    refine List.filter_congr fun i hi => ?_
    simp only [Function.comp, sub i hi, ge_iff_le]
  have fe : ((ces.filter fun e : MapEntry => !seen.toArray.contains e.born).filter fun e : MapEntry => decide (e.born < since)).isEmpty = (((List.range ces.size).filter fun i => !seen.contains i).filter fun i => decide (i < since)).isEmpty := by
    rw [← Array.isEmpty_toList, f2, List.isEmpty_map]
  unfold cands
  simp only [Array.toList_append, Array.toList_map, f2, f3, fe, List.map_append, List.map_map]
  congr 1
  split
  · rfl
  · rfl

theorem op_nextMap {it : Operand} (ho : o.op = .next it false) (hr : nextMapV (opd X tm it) H = some r) : StepTo X.P o a w (OpPost B w M ρ H r.v (putAll H r.wr)) := by
  have hv := opd_rel hX h ht it
  have he : execOp a.eval o = (do pure (.value (← Instr.next (a.eval it) false o.type))) := by simp only [execOp, ho]
  have over : VRel M ρ (.tuple [.bool false]) (.tuple #[.bool false]) := by
    unfold VRel
    refine ⟨_, rfl, ?_⟩
    unfold LRel
    exact ⟨_, _, rfl, by unfold VRel; rfl, by unfold LRel; rfl⟩
  unfold nextMapV at hr
  split at hr
  case h_2 => cases hr
  rename_i b hx
  rw [hx] at hv
  unfold VRel at hv
  obtain ⟨p, hp, hfix, hc⟩ := hv
  split at hr
  · rename_i hg
    cases hr
    obtain ⟨p', hp', hbr⟩ := h.place hg
    rw [hp] at hp'; cases hp'
    obtain ⟨_, om, hb, hom⟩ := hbr
    unfold VRel at hom
    have : om = none := by simpa using hom
    subst this
    refine StepTo.val he (c := .tuple #[.bool false]) (w' := w) ?_ (OpPost.same h over)
    rw [hc]
    simp only [Instr.next, Sem.run_bind, run_getMIter hb, Result.andThen_ok, Sem.run_pure]
  · rename_i m since seen last hg
    obtain ⟨p', hp', hbr⟩ := h.place hg
    rw [hp] at hp'; cases hp'
    obtain ⟨_, om, hb, hom⟩ := hbr
    have hom0 := hom
    unfold VRel at hom
    obtain ⟨pm, hpm, hfm, hom⟩ := hom
    have : om = some pm.block := by simpa using hom
    subst this
    cases hm : mapOf H m with
    | none => rw [hm] at hr; cases hr
    | some es =>
      rw [hm] at hr
      simp only at hr
      obtain ⟨p', ces, clock, hp', _, hbm, hes, hbo⟩ := map_at h hm
      rw [hpm] at hp'; cases hp'
      have hlen : es.length = ces.size := by rw [hes.length, Array.length_toList]
      have hclock : clock = es.length := by rw [hbo.1, hlen]
      split at hr
      · cases hr
      · rename_i hcond
        have hcheck : (!seen.toArray.isEmpty && !ces.isEmpty && ces.all fun e : MapEntry => decide (e.born ≥ last)) = false := by
          cases hs : seen with
          | nil => rfl
          | cons s0 sr =>
            rcases Nat.eq_zero_or_pos ces.size with h0 | h0
            · have : ces.isEmpty = true := by simpa using h0
              simp [this]
            · have hl0 : last ≠ 0 := by
                intro hl
                apply hcond
                rw [hs, hl]
                have : es.isEmpty = false := by
                  cases es with
                  | nil => simp at hlen; omega
                  | cons => rfl
                simp [this]
              have : (ces.all fun e : MapEntry => decide (e.born ≥ last)) = false := by
                rw [Array.all_eq_false]
                refine ⟨0, h0, ?_⟩
                have := hbo.2 0 ces[0] (Array.getElem?_eq_getElem h0)
                simp [this]
                omega
              rw [this, Bool.and_false]
        have hcs := cands_eq hbo since seen
        rw [hlen] at hr
        generalize hcd : ((if ((ces.filter fun e : MapEntry => !seen.toArray.contains e.born).filter fun e : MapEntry => decide (e.born < since)).isEmpty = true then #[none] else #[]) ++
          (((ces.filter fun e : MapEntry => !seen.toArray.contains e.born).filter fun e : MapEntry => decide (e.born < since)) ++ ((ces.filter fun e : MapEntry => !seen.toArray.contains e.born).filter fun e : MapEntry => decide (e.born ≥ since))).map some) = cd at hcs
        have key : ∀ x, cd = #[x] → ∃ w1, (w1 = w ∨ w1 = w.drew) ∧ (Instr.next (.pointer (some ⟨p.block, 0, none⟩)) false o.type).run X.P w = ((match x with
            | some e => do
              setObj p.block (.mapIter (some pm.block) since (seen.toArray.push e.born) clock)
              pure (.tuple #[.bool true, e.key, e.val])
            | none => pure (.tuple #[.bool false]) : Sem Value)).run X.P w1 := by
          intro x hx
          have hcut : ∀ v, (Question.mapNext 1).cut v = 0 := fun v => by simp [Question.cut]; omega
          refine ⟨if (Question.mapNext 1).forced then w else w.drew, by split <;> simp, ?_⟩
          simp only [Instr.next, Sem.run_bind, run_getMIter hb, Result.andThen_ok, run_getMap hbm, hcheck, Bool.false_eq_true, if_false, Sem.run_pure, hcd, hx]
          simp only [List.size_toArray, List.length_cons, List.length_nil, Nat.zero_add, run_choose_drew]
          split
          · simp only [Result.andThen_ok]
            cases x <;> rfl
          · simp only [hcut, Result.andThen_ok]
            cases x <;> rfl
        split at hr
        · rename_i i hci
          rw [hci] at hcs
          have hx1 : cd = #[some ((ces[i]?).getD default)] := by rw [← Array.toList_inj, hcs]; rfl
          cases hget : es[i]? with
          | none => rw [hget] at hr; cases hr
          | some kv =>
            obtain ⟨k, v⟩ := kv
            rw [hget] at hr
            simp only [Option.some.injEq] at hr
            subst hr
            have hi : i < ces.size := by
              rw [← hlen]
              rcases Nat.lt_or_ge i es.length with h1 | h1
              · exact h1
              · rw [List.getElem?_eq_none h1] at hget; cases hget
            have hce : ces[i]? = some ces[i] := Array.getElem?_eq_getElem hi
            obtain ⟨e, hge, hke, hve⟩ := hes.getBoth hget
            have : e = ces[i] := by
              rw [Array.getElem?_toList, hce] at hge
              exact (Option.some.inj hge).symm
            subst this
            obtain ⟨w1, hw1, hrun⟩ := key _ hx1
            have hp1 : HRel B w1 M ρ H ∧ Evo w M ρ H w1 M ρ H := by
              rcases hw1 with rfl | rfl
              · exact ⟨h, Evo.refl _ _ _ _⟩
              · exact h.pass (Kept.drew w)
            have hb1 : w1.heap[p.block]? = some (.mapIter (some pm.block) since seen.toArray last) := by
              rcases hw1 with rfl | rfl <;> exact hb
            have hborn : ces[i].born = i := hbo.2 i _ hce
            obtain ⟨ρ', g1, g2, g3⟩ := hp1.1.turnObj (y := .miter (.map m) since (seen ++ [i]) ces.size) (o := .mapIter (some pm.block) since (seen.toArray.push i) clock) hg rfl hp rfl hb1
              (fun ρ' hle w' hw' => ⟨hfix, _, by rw [hw', hclock, hlen]; simp, VRel.mono (Mem.le_refl _) hle _ _ hom0⟩) (by intros; simp) (by intros; simp)
            refine StepTo.val he (c := .tuple #[.bool true, ces[i].key, ces[i].val]) ?_ ⟨M, ρ', g1, ?_, hp1.2.trans g2, g3⟩
            · rw [hc, hrun, hce]
              simp only [Option.getD_some, hborn, Sem.run_bind, run_setMIter hb1, Result.andThen_ok, Sem.run_pure]
            · unfold VRel
              refine ⟨_, rfl, ?_⟩
              unfold LRel
              refine ⟨_, _, rfl, by unfold VRel; rfl, ?_⟩
              unfold LRel
              refine ⟨_, _, rfl, VRel.mono (Mem.le_refl _) g3 _ _ hke, ?_⟩
              unfold LRel
              exact ⟨_, _, rfl, VRel.mono (Mem.le_refl _) g3 _ _ hve, by unfold LRel; rfl⟩
        · rename_i hci
          cases hr
          rw [hci] at hcs
          have hx1 : cd = #[none] := by rw [← Array.toList_inj, hcs]; rfl
          obtain ⟨w1, hw1, hrun⟩ := key _ hx1
          have hp1 : HRel B w1 M ρ H ∧ Evo w M ρ H w1 M ρ H := by
            rcases hw1 with rfl | rfl
            · exact ⟨h, Evo.refl _ _ _ _⟩
            · exact h.pass (Kept.drew w)
          refine StepTo.val he (c := .tuple #[.bool false]) (w' := w1) ?_ ⟨M, ρ, hp1.1, over, hp1.2, Rho.le_refl _⟩
          rw [hc, hrun]
          simp only [Sem.run_pure]
        · cases hr
  · cases hr

theorem op_entry {it : Operand} (ho : o.op = .entry it) (hr : entryV (opd X tm it) H = some r) : StepTo X.P o a w (OpPost B w M ρ H r.v (putAll H r.wr)) := by
  have hv := opd_rel hX h ht it
  have he : execOp a.eval o = (do pure (.value (← Instr.entry (a.eval it)))) := by simp only [execOp, ho]
  unfold entryV at hr
  split at hr
  case h_2 => cases hr
  rename_i b hx
  rw [hx] at hv
  unfold VRel at hv
  obtain ⟨p, hp, hfix, hc⟩ := hv
  split at hr
  case h_2 => cases hr
  rename_i m since seen last hg
  obtain ⟨p', hp', hbr⟩ := h.place hg
  rw [hp] at hp'; cases hp'
  obtain ⟨_, om, hb, hom⟩ := hbr
  unfold VRel at hom
  obtain ⟨pm, hpm, hfm, hom⟩ := hom
  have : om = some pm.block := by simpa using hom
  subst this
  split at hr
  case h_2 => cases hr
  rename_i es i hm hlast
  obtain ⟨p', ces, clock, hp', _, hbm, hes, hbo⟩ := map_at h hm
  rw [hpm] at hp'; cases hp'
  have hlen : es.length = ces.size := by rw [hes.length, Array.length_toList]
  split at hr
  case isFalse => cases hr
  rename_i hl
  cases hget : es[i]? with
  | none => rw [hget] at hr; cases hr
  | some kv =>
    obtain ⟨k, v⟩ := kv
    rw [hget] at hr
    cases hr
    obtain ⟨e, hge, hke, hve⟩ := hes.getBoth hget
    have hge' : ces[i]? = some e := by simpa using hge
    have hborn : e.born = i := hbo.2 i e hge'
    have hback : seen.toArray.back? = some i := by simpa using hlast
    have hfind : ces.find? (fun x => x.born == i) = some e := by
      rw [← Array.find?_toList, List.find?_eq_some_iff_getElem]
      refine ⟨by simpa using hborn, i, ?_, ?_, fun j hj => ?_⟩
      · rcases Nat.lt_or_ge i ces.toList.length with h1 | h1
        · exact h1
        · rw [List.getElem?_eq_none h1] at hge; cases hge
      · have := List.getElem?_eq_some_iff.1 hge
        exact this.2
      · have hj' : j < ces.size := by
          rcases Nat.lt_or_ge i ces.size with h1 | h1
          · omega
          · rw [Array.getElem?_eq_none h1] at hge'; cases hge'
        have := hbo.2 j ces[j] (Array.getElem?_eq_getElem hj')
        simp [this]
        omega
    refine StepTo.val he (c := .tuple #[e.key, e.val]) (w' := w) ?_ (OpPost.same h ?_)
    · rw [hc]
      have hcl : (clock != last) = false := by
        rw [hbo.1, ← hlen, hl]; simp
      simp only [Instr.entry, Sem.run_bind, run_getMIter hb, Result.andThen_ok, hback, run_getMap hbm, hcl, Bool.false_eq_true, if_false, Sem.run_pure, hfind]
    · unfold VRel
      refine ⟨_, rfl, ?_⟩
      unfold LRel
      refine ⟨_, _, rfl, hke, ?_⟩
      unfold LRel
      exact ⟨_, _, rfl, hve, by unfold LRel; rfl⟩
end
end Go.Ev
