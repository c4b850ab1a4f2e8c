/- A part of the proof of BenchRefuses: no statement of the seat's stands here. -/
import Derived.Shelf.Strings.OnBuilder
import Derived.Test.YtbcackicpjobmaaGreatDoorEvK
set_option linter.unusedSectionVars false
set_option linter.unusedSimpArgs false
set_option linter.unusedVariables false
set_option linter.all false
/- Hooks out of contracts. -/
set_option linter.unusedVariables false
set_option linter.unusedSimpArgs false
namespace Go.Ev
open Go Go.RowKit Go.Shelf Go.Proofs

theorem Kept.of_below {w w' : World} (h : Below w.heap.size w w') : Kept (fun _ => False) (fun _ => False) w w' :=
  ⟨h.os, h.tape, h.output, h.size, fun r hr _ _ => h.block r hr, fun a ha _ => h.cell ha, fun a ha _ => h.frozen (cell_lt ha), fun r hr => shape_heap (h.block r hr)⟩

/-- A call that turns nothing. -/
theorem CallOK.of_below {P : Program} {B : Mem} {f : FuncId} {args : List V} {H : Heap} {r : V}
    (h : ∀ (w : World) (M : Mem) (ρ : Rho) (cargs : Array Value), B.le M → (∀ a x, M a = some x → w.cell? a = some x) → LRel M ρ args cargs.toList →
      Calls P f cargs w fun e w' => ∃ c, e = .returned c ∧ VRel M ρ r c ∧ Below w.heap.size w w') : CallOK P B f args H r H := by
  intro w M ρ cargs hr ha
  refine (h w M ρ cargs hr.base hr.mem ha).mono fun e w' he => ?_
  obtain ⟨c, rfl, hv, hb⟩ := he
  obtain ⟨h1, h2⟩ := hr.pass (Kept.of_below hb)
  exact ⟨c, M, ρ, rfl, h1, hv, h2, fun j _ p hp => ⟨p, hp, p.ext_refl⟩⟩

def strsOf : List V → Option (List (List UInt8))
  | [] => some []
  | .str s :: r => (strsOf r).map (s :: ·)
  | _ => none
theorem strsOf_cells {M : Mem} {ρ : Rho} : ∀ {cs : List V} {xs : List (List UInt8)} {blk off : Nat}, strsOf cs = some xs → CRel M ρ blk off cs →
    xs.length = cs.length ∧ ∀ (j : Nat) (x : ByteArray), (xs.map fun l => (⟨l.toArray⟩ : ByteArray))[j]? = some x → M ⟨blk, off + j, none⟩ = some (.string x)
  | [], xs, blk, off, h, hc => by
    simp only [strsOf, Option.some.injEq] at h
    subst h
    exact ⟨rfl, fun j x hx => by simp at hx⟩
  | .str s :: r, xs, blk, off, h, hc => by
    simp only [strsOf] at h
    obtain ⟨ys, hy, rfl⟩ := Option.map_eq_some_iff.1 h
    unfold CRel at hc
    obtain ⟨⟨c, hc1, hv⟩, hr⟩ := hc
    unfold VRel at hv
    obtain ⟨b, rfl, hb⟩ := hv
    obtain ⟨h1, h2⟩ := strsOf_cells hy hr
    refine ⟨by simp [h1], fun j x hx => ?_⟩
    cases j with
    | zero =>
      simp only [List.map_cons, List.getElem?_cons_zero, Option.some.injEq] at hx
      subst hx
      rw [Nat.add_zero, hc1, ← hb]
    | succ j =>
      simp only [List.map_cons, List.getElem?_cons_succ] at hx
      have := h2 j x hx
      rwa [show off + (j + 1) = off + 1 + j from by omega]
  | .dead :: _, _, _, _, h, _ => by simp [strsOf] at h
  | .junk :: _, _, _, _, h, _ => by simp [strsOf] at h
  | .bool _ :: _, _, _, _, h, _ => by simp [strsOf] at h
  | .int .. :: _, _, _, _, h, _ => by simp [strsOf] at h
  | .nilptr :: _, _, _, _, h, _ => by simp [strsOf] at h
  | .ptr .. :: _, _, _, _, h, _ => by simp [strsOf] at h
  | .iptr _ :: _, _, _, _, h, _ => by simp [strsOf] at h
  | .nilsl :: _, _, _, _, h, _ => by simp [strsOf] at h
  | .slz :: _, _, _, _, h, _ => by simp [strsOf] at h
  | .sl .. :: _, _, _, _, h, _ => by simp [strsOf] at h
  | .msl .. :: _, _, _, _, h, _ => by simp [strsOf] at h
  | .nilmap :: _, _, _, _, h, _ => by simp [strsOf] at h
  | .map _ :: _, _, _, _, h, _ => by simp [strsOf] at h
  | .iter _ :: _, _, _, _, h, _ => by simp [strsOf] at h
  | .yield _ :: _, _, _, _, h, _ => by simp [strsOf] at h
  | .tptr .. :: _, _, _, _, h, _ => by simp [strsOf] at h
  | .tsl .. :: _, _, _, _, h, _ => by simp [strsOf] at h
  | .tnil :: _, _, _, _, h, _ => by simp [strsOf] at h
  | .nilfunc :: _, _, _, _, h, _ => by simp [strsOf] at h
  | .func .. :: _, _, _, _, h, _ => by simp [strsOf] at h
  | .niliface :: _, _, _, _, h, _ => by simp [strsOf] at h
  | .iface .. :: _, _, _, _, h, _ => by simp [strsOf] at h
  | .agg _ :: _, _, _, _, h, _ => by simp [strsOf] at h
  | .tuple _ :: _, _, _, _, h, _ => by simp [strsOf] at h

/-- strings.Join, as a hook. -/
def spJoin (l : List V) (H : Heap) : Option (V × Heap) := match l with
  | [.sl 1 len cs, .str t] => match strsOf cs with
    | some xs => if xs.length = len && decide (len ≤ 140737488355328) && decide ((Lib.join xs t).length ≤ 140737488355328) then some (.str (Lib.join xs t), H) else none
    | none => none
  | [.nilsl, .str _] => some (.str [], H)
  | [.slz, .str _] => some (.str [], H)
  | _ => none

theorem args2 {M : Mem} {ρ : Rho} {x y : V} {cargs : Array Value} (h : LRel M ρ [x, y] cargs.toList) : ∃ a b, cargs = #[a, b] ∧ VRel M ρ x a ∧ VRel M ρ y b := by
  unfold LRel at h
  obtain ⟨a, r, h1, h2, h⟩ := h
  unfold LRel at h
  obtain ⟨b, r', rfl, h3, h⟩ := h
  unfold LRel at h
  subst h
  exact ⟨a, b, by apply Array.ext'; rw [h1], h2, h3⟩

theorem spJoin_ok {P : Program} {B : Mem} {ρ' : Ren} (L : Lays.n156 P ρ') (E : Builder.Extra P ρ') {args : List V} {H H' : Heap} {r : V} (h : spJoin args H = some (r, H')) : CallOK P B (ρ'.f 156) args H r H' := by
  unfold spJoin at h
  split at h
  · rename_i len cs t
    split at h
    · rename_i xs hxs
      split at h
      · rename_i hc
        simp only [Bool.and_eq_true, decide_eq_true_eq] at hc
        obtain ⟨⟨c1, c2⟩, c3⟩ := hc
        cases h
        refine CallOK.of_below fun w M ρ cargs hB hM ha => ?_
        obtain ⟨a, b, rfl, h1, h2⟩ := args2 ha
        unfold VRel at h1 h2
        obtain ⟨ad, cap, rfl, hlc, hcl, _, hcr⟩ := h1
        obtain ⟨sep, rfl, hsep⟩ := h2
        have e1 : (xs.map fun l => (⟨l.toArray⟩ : ByteArray)).map (·.data.toList) = xs := by rw [List.map_map]; exact List.map_id' _
        cases hx : xs with
        | nil =>
          subst hx
          simp only [List.length_nil] at c1
          subst c1
          refine (Any.strings_Join_none L E (some ad) cap sep w).mono fun e w' he => ⟨_, he.1, ?_, ?_⟩
          · unfold VRel; exact ⟨_, rfl, rfl⟩
          · rw [he.2]; exact Below.refl _ _
        | cons x0 xr =>
          rw [← hx]
          have hne : len ≠ 0 := by rw [← c1, hx]; simp
          obtain ⟨hsp, hcr⟩ := hcr.resolve_left hne
          obtain ⟨k1, k2⟩ := strsOf_cells hxs hcr
          have k3 : ∀ (j : Nat) (x : ByteArray), (xs.map fun l => (⟨l.toArray⟩ : ByteArray))[j]? = some x → w.cell? ⟨ad.block, ad.off + j, none⟩ = some (.string x) := fun j x hx => hM _ _ (k2 j x hx)
          have hlt : ad.block < w.heap.size := by
            have := k3 0 ⟨x0.toArray⟩ (by rw [hx]; rfl)
            exact World.block_lt_of_cell? _ ⟨ad.block, ad.off + 0, none⟩ this
          have hj := Any.strings_Join L E ad.block ad.off cap (xs.map fun l => (⟨l.toArray⟩ : ByteArray)) sep w k3 hlt (by simpa [c1] using c2) (by simpa [c1] using hlc) (by rw [e1, hsep]; exact c3)
          have had : (⟨ad.block, ad.off, none⟩ : Addr) = ad := by cases ad; simp at hsp; simp [hsp]
          rw [had, List.length_map, c1, e1, hsep] at hj
          refine hj.mono fun e w' he => ⟨_, he.1, ?_, he.2⟩
          unfold VRel
          exact ⟨_, rfl, by simp⟩
      · cases h
    · cases h
  · cases h
    refine CallOK.of_below fun w M ρ cargs hB hM ha => ?_
    obtain ⟨a, b, rfl, h1, h2⟩ := args2 ha
    unfold VRel at h1 h2
    subst h1
    obtain ⟨sep, rfl, hsep⟩ := h2
    refine (Any.strings_Join_none L E none 0 sep w).mono fun e w' he => ⟨_, he.1, ?_, ?_⟩
    · unfold VRel; exact ⟨_, rfl, rfl⟩
    · rw [he.2]; exact Below.refl _ _
  · cases h
    refine CallOK.of_below fun w M ρ cargs hB hM ha => ?_
    obtain ⟨a, b, rfl, h1, h2⟩ := args2 ha
    unfold VRel at h1 h2
    obtain ⟨ad, rfl⟩ := h1
    obtain ⟨sep, rfl, hsep⟩ := h2
    refine (Any.strings_Join_none L E (some ad) 0 sep w).mono fun e w' he => ⟨_, he.1, ?_, ?_⟩
    · unfold VRel; exact ⟨_, rfl, rfl⟩
    · rw [he.2]; exact Below.refl _ _
  · cases h
end Go.Ev
