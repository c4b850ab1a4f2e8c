/- A part of the proof of BenchRefuses: no statement of the seat's stands here. -/
import Derived.Laws.Sem
import Derived.Laws.Cells
import Derived.Laws.World
import Derived.Laws.IdiomCopy
import Derived.Test.YtbcackicpjobmaaGreatDoorEvA
set_option linter.unusedSectionVars false
set_option linter.unusedSimpArgs false
set_option linter.unusedVariables false
set_option linter.all false
/- What an abstract state says of a world. -/
namespace Go.Ev
open Go

/-- Where a block lies: a row from 'off' on in a block of cells, with 'cap' cells that are its own; a version; or an object, which stays where it is. -/
structure Pl where
  block : Nat
  off : Nat
  cap : Nat
  ver : Nat
  fix : Bool
  ty : Option (TypeId × Nat)

abbrev Rho := Nat → Option Pl
abbrev Mem := Addr → Option Value

abbrev isCell (c : Value) : Prop := c.oneCell' = true

mutual
def VRel (M : Mem) (ρ : Rho) : V → Value → Prop
  | .dead, _ => True
  | .junk, c => isCell c
  | .bool b, c => c = .bool b
  | .int k n, c => c = .int k n
  | .str s, c => ∃ b, c = .string b ∧ b.data.toList = s
  | .nilptr, c => c = .pointer none
  | .ptr b ver o, c => ∃ p a, ρ b = some p ∧ ver ≤ p.ver ∧ c = .pointer (some a) ∧ (ver = p.ver → a = ⟨p.block, p.off + o, none⟩)
  | .iptr cs, c => ∃ a, c = .pointer (some a) ∧ a.spot = none ∧ CRel M ρ a.block a.off cs
  | .nilsl, c => c = .slice none 0 0
  | .slz, c => ∃ a, c = .slice (some a) 0 0
  | .sl sz len cs, c => ∃ a cap, c = .slice (some a) len cap ∧ len ≤ cap ∧ cs.length = len * sz ∧ 1 ≤ sz ∧ (len = 0 ∨ (a.spot = none ∧ CRel M ρ a.block a.off cs))
  | .msl b ver o sz len, c => ∃ p a cap, ρ b = some p ∧ ver ≤ p.ver ∧ 1 ≤ sz ∧ c = .slice (some a) len cap ∧ len ≤ cap ∧
      (ver = p.ver → (cap = 0 ∨ a = ⟨p.block, p.off + o, none⟩) ∧ o + cap * sz ≤ p.cap)
  | .nilmap, c => c = .map none
  | .map b, c => ∃ p, ρ b = some p ∧ p.fix = true ∧ c = .map (some p.block)
  | .iter b, c => ∃ p, ρ b = some p ∧ p.fix = true ∧ c = .pointer (some ⟨p.block, 0, none⟩)
  | .tnil, c => c = .slice none 0 0
  | .tsl t b ver len, c => ∃ p a cap, ρ b = some p ∧ ver ≤ p.ver ∧ c = .slice (some a) len cap ∧ len ≤ cap ∧
      (ver = p.ver → ((cap = 0 ∨ a = ⟨p.block, p.off, none⟩) ∧ cap ≤ p.cap) ∧ ∃ n, p.ty = some (t, n))
  | .tptr t n b, c => ∃ p a, ρ b = some p ∧ c = .pointer (some a) ∧ (0 = p.ver → a = ⟨p.block, p.off, none⟩ ∧ p.ty = some (t, n))
  | .yield b, c => ∃ p, ρ b = some p ∧ p.fix = true ∧ c = .func (.yield p.block) #[] #[]
  | .nilfunc, c => c = .nilFunc
  | .func fn first caps, c => ∃ f1 c1, c = .func fn f1 c1 ∧ LRel M ρ first f1.toList ∧ LRel M ρ caps c1.toList
  | .niliface, c => c = .nilIface
  | .iface t v, c => ∃ x, c = .iface t x ∧ VRel M ρ v x
  | .agg cs, c => ∃ xs, c = .agg xs ∧ LRel M ρ cs xs.toList
  | .tuple cs, c => ∃ xs, c = .tuple xs ∧ LRel M ρ cs xs.toList
/-- Cells that lie in memory that nobody writes. -/
def CRel (M : Mem) (ρ : Rho) (blk off : Nat) : List V → Prop
  | [] => True
  | v :: r => (∃ x, M ⟨blk, off, none⟩ = some x ∧ VRel M ρ v x) ∧ CRel M ρ blk (off + 1) r
def LRel (M : Mem) (ρ : Rho) : List V → List Value → Prop
  | [], l => l = []
  | v :: r, l => ∃ x xs, l = x :: xs ∧ VRel M ρ v x ∧ LRel M ρ r xs
end

def Mem.le (M M' : Mem) : Prop := ∀ a x, M a = some x → M' a = some x
theorem Mem.le_refl (M : Mem) : M.le M := fun _ _ h => h
theorem Mem.le_trans {M M' M'' : Mem} (h : M.le M') (h' : M'.le M'') : M.le M'' := fun a x hx => h' a x (h a x hx)

/-- A place, and what it becomes: the same, or of a later version. -/
def Pl.ext (p p' : Pl) : Prop := p.ver ≤ p'.ver ∧ (p'.ver = p.ver → p' = p) ∧ (p.fix = true → p' = p)
theorem Pl.ext_refl (p : Pl) : p.ext p := ⟨Nat.le_refl _, fun _ => rfl, fun _ => rfl⟩
theorem Pl.ext_trans {p p' p'' : Pl} (h : p.ext p') (h' : p'.ext p'') : p.ext p'' := by
  obtain ⟨l1, e1, f1⟩ := h
  obtain ⟨l2, e2, f2⟩ := h'
  refine ⟨Nat.le_trans l1 l2, fun e => ?_, fun f => ?_⟩
  · have h3 := e1 (by omega)
    subst h3
    exact e2 e
  · have h3 := f1 f
    subst h3
    exact f2 f
def Rho.le (ρ ρ' : Rho) : Prop := ∀ b p, ρ b = some p → ∃ p', ρ' b = some p' ∧ p.ext p'
theorem Rho.le_refl (ρ : Rho) : ρ.le ρ := fun _ p h => ⟨p, h, p.ext_refl⟩
theorem Rho.le_trans {ρ ρ' ρ'' : Rho} (h : ρ.le ρ') (h' : ρ'.le ρ'') : ρ.le ρ'' := fun b p hp => by
  obtain ⟨p1, h1, e1⟩ := h b p hp
  obtain ⟨p2, h2, e2⟩ := h' b p1 h1
  exact ⟨p2, h2, Pl.ext_trans e1 e2⟩

/- more memory, later versions -/
mutual
theorem VRel.mono {M M' : Mem} {ρ ρ' : Rho} (hM : M.le M') (hρ : ρ.le ρ') : ∀ (v : V) (c : Value), VRel M ρ v c → VRel M' ρ' v c
  | .dead, _, _ => by unfold VRel; trivial
  | .junk, c, h => by unfold VRel at *; exact h
  | .bool b, c, h => by unfold VRel at *; exact h
  | .int k n, c, h => by unfold VRel at *; exact h
  | .str s, c, h => by unfold VRel at *; exact h
  | .nilptr, c, h => by unfold VRel at *; exact h
  | .nilsl, c, h => by unfold VRel at *; exact h
  | .slz, c, h => by unfold VRel at *; exact h
  | .nilmap, c, h => by unfold VRel at *; exact h
  | .nilfunc, c, h => by unfold VRel at *; exact h
  | .niliface, c, h => by unfold VRel at *; exact h
  | .ptr b ver o, c, h => by
    unfold VRel at *
    obtain ⟨p, a, hb, hv, hc, hp⟩ := h
    obtain ⟨p', hb', he, hs, _⟩ := hρ b p hb
    refine ⟨p', a, hb', Nat.le_trans hv he, hc, fun e => ?_⟩
    have := hs (by omega)
    subst this
    exact hp e
  | .iptr cs, c, h => by
    unfold VRel at *
    obtain ⟨a, hc, hs, hr⟩ := h
    exact ⟨a, hc, hs, CRel.mono hM hρ cs _ _ hr⟩
  | .sl sz len cs, c, h => by
    unfold VRel at *
    obtain ⟨a, cap, hc, hl, hn, hz, hr⟩ := h
    exact ⟨a, cap, hc, hl, hn, hz, hr.imp id fun hr => ⟨hr.1, CRel.mono hM hρ cs _ _ hr.2⟩⟩
  | .msl b ver o sz len, c, h => by
    unfold VRel at *
    obtain ⟨p, a, cap, hb, hv, hz, hc, hl, hp⟩ := h
    obtain ⟨p', hb', he, hs, _⟩ := hρ b p hb
    refine ⟨p', a, cap, hb', Nat.le_trans hv he, hz, hc, hl, fun e => ?_⟩
    have := hs (by omega)
    subst this
    exact hp e
  | .map b, c, h => by
    unfold VRel at *
    obtain ⟨p, hb, hf, hc⟩ := h
    obtain ⟨p', hb', _, _, hs⟩ := hρ b p hb
    have := hs hf
    subst this
    exact ⟨_, hb', hf, hc⟩
  | .iter b, c, h => by
    unfold VRel at *
    obtain ⟨p, hb, hf, hc⟩ := h
    obtain ⟨p', hb', _, _, hs⟩ := hρ b p hb
    have := hs hf
    subst this
    exact ⟨_, hb', hf, hc⟩
  | .tnil, c, h => by unfold VRel at *; exact h
  | .tsl t b ver len, c, h => by
    unfold VRel at *
    obtain ⟨p, a, cap, hb, hv, hc, hl, hp⟩ := h
    obtain ⟨p', hb', he, hs, _⟩ := hρ b p hb
    refine ⟨p', a, cap, hb', Nat.le_trans hv he, hc, hl, fun e => ?_⟩
    have := hs (by omega)
    subst this
    exact hp e
  | .tptr t n b, c, h => by
    unfold VRel at *
    obtain ⟨p, a, hb, hc, hp⟩ := h
    obtain ⟨p', hb', he, hs, _⟩ := hρ b p hb
    refine ⟨p', a, hb', hc, fun e => ?_⟩
    have := hs (by omega)
    subst this
    exact hp e
  | .yield b, c, h => by
    unfold VRel at *
    obtain ⟨p, hb, hf, hc⟩ := h
    obtain ⟨p', hb', _, _, hs⟩ := hρ b p hb
    have := hs hf
    subst this
    exact ⟨_, hb', hf, hc⟩
  | .func fn first caps, c, h => by
    unfold VRel at *
    obtain ⟨f1, c1, hc, h1, h2⟩ := h
    exact ⟨f1, c1, hc, LRel.mono hM hρ first _ h1, LRel.mono hM hρ caps _ h2⟩
  | .iface t v, c, h => by
    unfold VRel at *
    obtain ⟨x, hc, h1⟩ := h
    exact ⟨x, hc, VRel.mono hM hρ v _ h1⟩
  | .agg cs, c, h => by
    unfold VRel at *
    obtain ⟨xs, hc, h1⟩ := h
    exact ⟨xs, hc, LRel.mono hM hρ cs _ h1⟩
  | .tuple cs, c, h => by
    unfold VRel at *
    obtain ⟨xs, hc, h1⟩ := h
    exact ⟨xs, hc, LRel.mono hM hρ cs _ h1⟩
theorem CRel.mono {M M' : Mem} {ρ ρ' : Rho} (hM : M.le M') (hρ : ρ.le ρ') : ∀ (cs : List V) (blk off : Nat), CRel M ρ blk off cs → CRel M' ρ' blk off cs
  | [], _, _, _ => by unfold CRel; trivial
  | v :: r, blk, off, h => by
    unfold CRel at *
    obtain ⟨⟨x, hx, hv⟩, hr⟩ := h
    exact ⟨⟨x, hM _ _ hx, VRel.mono hM hρ v x hv⟩, CRel.mono hM hρ r _ _ hr⟩
theorem LRel.mono {M M' : Mem} {ρ ρ' : Rho} (hM : M.le M') (hρ : ρ.le ρ') : ∀ (l : List V) (xs : List Value), LRel M ρ l xs → LRel M' ρ' l xs
  | [], _, h => by unfold LRel at *; exact h
  | v :: r, l, h => by
    unfold LRel at *
    obtain ⟨x, xs, hl, hv, hr⟩ := h
    exact ⟨x, xs, hl, VRel.mono hM hρ v x hv, LRel.mono hM hρ r xs hr⟩
end

/- renaming -/
mutual
theorem VRel.ren {M : Mem} {ρ ρ' : Rho} {m : Nat → Option Nat} (hm : ∀ b b', m b = some b' → ρ' b' = ρ b) : ∀ (v : V) (c : Value), VRel M ρ v c → VRel M ρ' (v.ren m) c
  | .dead, _, _ => by unfold V.ren VRel; trivial
  | .junk, c, h => by unfold V.ren; unfold VRel at *; exact h
  | .bool b, c, h => by unfold V.ren; unfold VRel at *; exact h
  | .int k n, c, h => by unfold V.ren; unfold VRel at *; exact h
  | .str s, c, h => by unfold V.ren; unfold VRel at *; exact h
  | .nilptr, c, h => by unfold V.ren; unfold VRel at *; exact h
  | .nilsl, c, h => by unfold V.ren; unfold VRel at *; exact h
  | .slz, c, h => by unfold V.ren; unfold VRel at *; exact h
  | .nilmap, c, h => by unfold V.ren; unfold VRel at *; exact h
  | .nilfunc, c, h => by unfold V.ren; unfold VRel at *; exact h
  | .niliface, c, h => by unfold V.ren; unfold VRel at *; exact h
  | .ptr b ver o, c, h => by
    unfold VRel at h
    obtain ⟨p, a, hb, hv, hc, hp⟩ := h
    unfold V.ren
    cases hmb : m b with
    | none => subst hc; simp only; unfold VRel; rfl
    | some b' => simp only; unfold VRel; exact ⟨p, a, by rw [hm b b' hmb, hb], hv, hc, hp⟩
  | .iptr cs, c, h => by
    unfold VRel at h
    obtain ⟨a, hc, hs, hr⟩ := h
    unfold V.ren; unfold VRel
    exact ⟨a, hc, hs, CRel.ren hm cs _ _ hr⟩
  | .sl sz len cs, c, h => by
    unfold VRel at h
    obtain ⟨a, cap, hc, hl, hn, hz, hr⟩ := h
    unfold V.ren; unfold VRel
    exact ⟨a, cap, hc, hl, by rw [renL_length]; exact hn, hz, hr.imp id fun hr => ⟨hr.1, CRel.ren hm cs _ _ hr.2⟩⟩
  | .msl b ver o sz len, c, h => by
    unfold VRel at h
    obtain ⟨p, a, cap, hb, hv, hz, hc, hl, hp⟩ := h
    unfold V.ren
    cases hmb : m b with
    | none => subst hc; simp only; unfold VRel; rfl
    | some b' => simp only; unfold VRel; exact ⟨p, a, cap, by rw [hm b b' hmb, hb], hv, hz, hc, hl, hp⟩
  | .map b, c, h => by
    unfold VRel at h
    obtain ⟨p, hb, hf, hc⟩ := h
    unfold V.ren
    cases hmb : m b with
    | none => subst hc; simp only; unfold VRel; rfl
    | some b' => simp only; unfold VRel; exact ⟨p, by rw [hm b b' hmb, hb], hf, hc⟩
  | .iter b, c, h => by
    unfold VRel at h
    obtain ⟨p, hb, hf, hc⟩ := h
    unfold V.ren
    cases hmb : m b with
    | none => subst hc; simp only; unfold VRel; rfl
    | some b' => simp only; unfold VRel; exact ⟨p, by rw [hm b b' hmb, hb], hf, hc⟩
  | .tnil, c, h => by unfold V.ren; unfold VRel at *; exact h
  | .tsl t b ver len, c, h => by
    unfold VRel at h
    obtain ⟨p, a, cap, hb, hv, hc, hl, hp⟩ := h
    unfold V.ren
    cases hmb : m b with
    | none => subst hc; simp only; unfold VRel; rfl
    | some b' => simp only; unfold VRel; exact ⟨p, a, cap, by rw [hm b b' hmb, hb], hv, hc, hl, hp⟩
  | .tptr t n b, c, h => by
    unfold VRel at h
    obtain ⟨p, a, hb, hc, hp⟩ := h
    unfold V.ren
    cases hmb : m b with
    | none => subst hc; simp only; unfold VRel; rfl
    | some b' => simp only; unfold VRel; exact ⟨p, a, by rw [hm b b' hmb, hb], hc, hp⟩
  | .yield b, c, h => by
    unfold VRel at h
    obtain ⟨p, hb, hf, hc⟩ := h
    unfold V.ren
    cases hmb : m b with
    | none => subst hc; simp only; unfold VRel; rfl
    | some b' => simp only; unfold VRel; exact ⟨p, by rw [hm b b' hmb, hb], hf, hc⟩
  | .func fn first caps, c, h => by
    unfold VRel at h
    obtain ⟨f1, c1, hc, h1, h2⟩ := h
    unfold V.ren; unfold VRel
    exact ⟨f1, c1, hc, LRel.ren hm first _ h1, LRel.ren hm caps _ h2⟩
  | .iface t v, c, h => by
    unfold VRel at h
    obtain ⟨x, hc, h1⟩ := h
    unfold V.ren; unfold VRel
    exact ⟨x, hc, VRel.ren hm v _ h1⟩
  | .agg cs, c, h => by
    unfold VRel at h
    obtain ⟨xs, hc, h1⟩ := h
    unfold V.ren; unfold VRel
    exact ⟨xs, hc, LRel.ren hm cs _ h1⟩
  | .tuple cs, c, h => by
    unfold VRel at h
    obtain ⟨xs, hc, h1⟩ := h
    unfold V.ren; unfold VRel
    exact ⟨xs, hc, LRel.ren hm cs _ h1⟩
theorem CRel.ren {M : Mem} {ρ ρ' : Rho} {m : Nat → Option Nat} (hm : ∀ b b', m b = some b' → ρ' b' = ρ b) : ∀ (cs : List V) (blk off : Nat), CRel M ρ blk off cs → CRel M ρ' blk off (renL m cs)
  | [], _, _, _ => by unfold renL CRel; trivial
  | v :: r, blk, off, h => by
    unfold CRel at h
    obtain ⟨⟨x, hx, hv⟩, hr⟩ := h
    unfold renL CRel
    exact ⟨⟨x, hx, VRel.ren hm v x hv⟩, CRel.ren hm r _ _ hr⟩
theorem LRel.ren {M : Mem} {ρ ρ' : Rho} {m : Nat → Option Nat} (hm : ∀ b b', m b = some b' → ρ' b' = ρ b) : ∀ (l : List V) (xs : List Value), LRel M ρ l xs → LRel M ρ' (renL m l) xs
  | [], _, h => by unfold LRel at h; unfold renL LRel; exact h
  | v :: r, l, h => by
    unfold LRel at h
    obtain ⟨x, xs, hl, hv, hr⟩ := h
    unfold renL LRel
    exact ⟨x, xs, hl, VRel.ren hm v x hv, LRel.ren hm r xs hr⟩
theorem renL_length {m : Nat → Option Nat} : ∀ l : List V, (renL m l).length = l.length
  | [] => by unfold renL; rfl
  | v :: r => by unfold renL; simp [renL_length r]
end

/- lists, cell by cell -/
theorem LRel.length {M : Mem} {ρ : Rho} : ∀ {l : List V} {xs : List Value}, LRel M ρ l xs → l.length = xs.length
  | [], xs, h => by unfold LRel at h; simp [h]
  | v :: r, l, h => by
    unfold LRel at h
    obtain ⟨x, xs, rfl, _, hr⟩ := h
    simp [LRel.length hr]
theorem LRel.get {M : Mem} {ρ : Rho} : ∀ {l : List V} {xs : List Value}, LRel M ρ l xs → ∀ {i : Nat} {v : V}, l[i]? = some v → ∃ x, xs[i]? = some x ∧ VRel M ρ v x
  | [], xs, _, i, v, hv => by simp at hv
  | u :: r, l, h, i, v, hv => by
    unfold LRel at h
    obtain ⟨x, xs, rfl, hu, hr⟩ := h
    cases i with
    | zero => simp at hv; subst hv; exact ⟨x, rfl, hu⟩
    | succ i => simp at hv; simpa using LRel.get hr hv
theorem LRel.of_get {M : Mem} {ρ : Rho} : ∀ {l : List V} {xs : List Value}, l.length = xs.length → (∀ (i : Nat) (v : V) (x : Value), l[i]? = some v → xs[i]? = some x → VRel M ρ v x) → LRel M ρ l xs
  | [], xs, h, _ => by unfold LRel; exact List.length_eq_zero_iff.1 h.symm
  | u :: r, [], h, _ => by simp at h
  | u :: r, x :: xs, h, hg => by
    unfold LRel
    refine ⟨x, xs, rfl, hg 0 u x rfl rfl, LRel.of_get (by simpa using h) fun i v y hv hy => hg (i + 1) v y (by simpa using hv) (by simpa using hy)⟩
theorem LRel.set {M : Mem} {ρ : Rho} {l : List V} {xs : List Value} (h : LRel M ρ l xs) (i : Nat) {v : V} {x : Value} (hv : VRel M ρ v x) : LRel M ρ (l.set i v) (xs.set i x) := by
  refine LRel.of_get (by simp [h.length]) fun j u y hu hy => ?_
  rw [List.getElem?_set] at hu hy
  by_cases e : i = j
  · subst e
    have hl := h.length
    simp only [if_true] at hu hy
    split at hu
    · split at hy
      · cases hu; cases hy; exact hv
      · simp at hy
    · simp at hu
  · simp only [e, if_false] at hu hy
    obtain ⟨z, hz, hr⟩ := h.get hu
    rw [hz] at hy; cases hy; exact hr
theorem LRel.append {M : Mem} {ρ : Rho} : ∀ {l l' : List V} {xs xs' : List Value}, LRel M ρ l xs → LRel M ρ l' xs' → LRel M ρ (l ++ l') (xs ++ xs')
  | [], l', xs, xs', h, h' => by unfold LRel at h; subst h; simpa using h'
  | v :: r, l', l, xs', h, h' => by
    unfold LRel at h
    obtain ⟨x, xs, rfl, hv, hr⟩ := h
    simp only [List.cons_append]
    rw [LRel]
    exact ⟨x, xs ++ xs', rfl, hv, LRel.append hr h'⟩
theorem LRel.take {M : Mem} {ρ : Rho} {l : List V} {xs : List Value} (h : LRel M ρ l xs) (n : Nat) : LRel M ρ (l.take n) (xs.take n) := by
  refine LRel.of_get (by simp [h.length]) fun j u y hu hy => ?_
  rw [List.getElem?_take] at hu hy
  by_cases hj : j < n
  · rw [if_pos hj] at hu hy
    obtain ⟨z, hz, hr⟩ := h.get hu
    rw [hz] at hy; cases hy; exact hr
  · rw [if_neg hj] at hu; cases hu
theorem LRel.drop {M : Mem} {ρ : Rho} {l : List V} {xs : List Value} (h : LRel M ρ l xs) (n : Nat) : LRel M ρ (l.drop n) (xs.drop n) := by
  refine LRel.of_get (by simp [h.length]) fun j u y hu hy => ?_
  rw [List.getElem?_drop] at hu hy
  obtain ⟨z, hz, hr⟩ := h.get hu
  rw [hz] at hy; cases hy; exact hr
theorem LRel.replicate_dead {M : Mem} {ρ : Rho} (n : Nat) (xs : List Value) (h : xs.length = n) : LRel M ρ (List.replicate n .dead) xs :=
  LRel.of_get (by simp [h]) fun i v x hv _ => by
    have hm := List.mem_of_getElem? hv
    simp at hm
    rw [hm.2]; unfold VRel; trivial

theorem CRel.get {M : Mem} {ρ : Rho} : ∀ {cs : List V} {blk off : Nat}, CRel M ρ blk off cs → ∀ {j : Nat} {v : V}, cs[j]? = some v → ∃ x, M ⟨blk, off + j, none⟩ = some x ∧ VRel M ρ v x
  | [], blk, off, _, j, v, hv => by simp at hv
  | u :: r, blk, off, h, j, v, hv => by
    unfold CRel at h
    obtain ⟨⟨x, hx, hu⟩, hr⟩ := h
    cases j with
    | zero => simp at hv; subst hv; exact ⟨x, hx, hu⟩
    | succ j =>
      simp at hv
      obtain ⟨y, hy, hvy⟩ := CRel.get hr hv
      exact ⟨y, by rw [show off + (j + 1) = off + 1 + j from by omega]; exact hy, hvy⟩
theorem CRel.of_get {M : Mem} {ρ : Rho} : ∀ {cs : List V} {blk off : Nat}, (∀ (j : Nat) (v : V), cs[j]? = some v → ∃ x, M ⟨blk, off + j, none⟩ = some x ∧ VRel M ρ v x) → CRel M ρ blk off cs
  | [], blk, off, _ => by unfold CRel; trivial
  | u :: r, blk, off, h => by
    unfold CRel
    refine ⟨h 0 u rfl, CRel.of_get fun j v hv => ?_⟩
    have := h (j + 1) v (by simpa using hv)
    rwa [show off + (j + 1) = off + 1 + j from by omega] at this
theorem CRel.drop {M : Mem} {ρ : Rho} {cs : List V} {blk off : Nat} (h : CRel M ρ blk off cs) (n : Nat) : CRel M ρ blk (off + n) (cs.drop n) :=
  CRel.of_get fun j v hv => by
    rw [List.getElem?_drop] at hv
    have := h.get hv
    rwa [show off + (n + j) = off + n + j from by omega] at this
theorem CRel.take {M : Mem} {ρ : Rho} {cs : List V} {blk off : Nat} (h : CRel M ρ blk off cs) (n : Nat) : CRel M ρ blk off (cs.take n) :=
  CRel.of_get fun j v hv => by
    rw [List.getElem?_take] at hv
    split at hv
    · exact h.get hv
    · simp at hv

theorem VRel.cell {M : Mem} {ρ : Rho} {v : V} {c : Value} (h : VRel M ρ v c) (hs : v.scalar = true) : isCell c := by
  cases v <;> simp [V.scalar] at hs <;> unfold VRel at h
  case junk => exact h
  case str => obtain ⟨b, rfl, _⟩ := h; rfl
  case ptr => obtain ⟨p, a, _, _, rfl, _⟩ := h; rfl
  case iptr => obtain ⟨a, rfl, _⟩ := h; rfl
  case slz => obtain ⟨a, rfl⟩ := h; rfl
  case sl => obtain ⟨a, cap, rfl, _⟩ := h; rfl
  case msl => obtain ⟨p, a, cap, _, _, _, rfl, _⟩ := h; rfl
  case map => obtain ⟨p, _, _, rfl⟩ := h; rfl
  case iter => obtain ⟨p, _, _, rfl⟩ := h; rfl
  case yield => obtain ⟨p, _, _, rfl⟩ := h; rfl
  case tptr => obtain ⟨p, a, _, rfl, _⟩ := h; rfl
  case tsl => obtain ⟨p, a, cap, _, _, rfl, _⟩ := h; rfl
  case func => obtain ⟨p, _, rfl, _⟩ := h; rfl
  case iface => obtain ⟨p, rfl, _⟩ := h; rfl
  all_goals (subst h; rfl)

theorem cells_one {c : Value} (h : isCell c) : c.cells.toList = [c] := by
  cases c with
  | agg => cases h
  | _ => rfl
/-- The cells of a value, related. -/
theorem VRel.cells {M : Mem} {ρ : Rho} {v : V} {c : Value} (h : VRel M ρ v c) (hs : v.cells.all V.scalar = true) : LRel M ρ v.cells c.cells.toList ∧ c.cells.size = v.cells.length := by
  have key : LRel M ρ v.cells c.cells.toList := by
    cases v
    case agg cs =>
      unfold VRel at h
      obtain ⟨xs, rfl, hr⟩ := h
      exact hr
    case dead => simp [V.cells, V.scalar] at hs
    case tuple => simp [V.cells, V.scalar] at hs
    all_goals
      have hc := VRel.cell h (by simpa [V.cells] using hs)
      have : c.cells.toList = [c] := cells_one hc
      rw [this]
      simp only [V.cells]
      unfold LRel
      exact ⟨c, [], rfl, h, by unfold LRel; rfl⟩
  exact ⟨key, by have := key.length; simp at this; omega⟩

end Go.Ev
/- What an abstract heap says of a world; what a step may turn. -/
namespace Go.Ev
open Go

theorem Heap.get_put_same (H : Heap) (b : Nat) (x : Option Blk) : (H.put b x).get b = x := by
  unfold Heap.put Heap.get
  split
  · rename_i h; simp [h]
  · rename_i h
    rw [List.getElem?_append_right (by simp; omega)]
    have : b - (H ++ List.replicate (b - H.length) none).length = 0 := by simp; omega
    rw [this]; rfl
theorem Heap.get_put_other (H : Heap) (b b' : Nat) (x : Option Blk) (h : b' ≠ b) : (H.put b x).get b' = H.get b' := by
  unfold Heap.put Heap.get
  split
  · rw [List.getElem?_set_ne (Ne.symm h)]
  · rename_i hb
    rcases Nat.lt_or_ge b' H.length with hl | hl
    · rw [List.append_assoc, List.getElem?_append_left hl]
    · rw [List.getElem?_eq_none (l := H) hl]
      rcases Nat.lt_or_ge b' b with h2 | h2
      · rw [List.getElem?_append_left (by simp; omega), List.getElem?_append_right hl, List.getElem?_replicate]
        split <;> rfl
      · rw [List.getElem?_append_right (by simp; omega)]
        have : 0 < b' - (H ++ List.replicate (b - H.length) none).length := by simp; omega
        rw [List.getElem?_eq_none (by simp; omega)]
theorem Heap.get_none_of_le (H : Heap) (b : Nat) (h : H.length ≤ b) : H.get b = none := by
  unfold Heap.get; rw [List.getElem?_eq_none h]; rfl

def Blk.isObj : Blk → Bool
  | .row .. => false
  | _ => true

def EsRel (M : Mem) (ρ : Rho) : List (V × V) → List MapEntry → Prop
  | [], l => l = []
  | (k, v) :: r, l => ∃ e es, l = e :: es ∧ VRel M ρ k e.key ∧ VRel M ρ v e.val ∧ EsRel M ρ r es

def Ex.code : Ex → Code
  | .normal => .skip
  | .exit id => .exit id
  | .goto l => .goto l
  | .ret => .ret
/-- What a loop's block says of its record. -/
def LoopRel (M : Mem) (ρ : Rho) (fn : FuncId) (tm : List V) (ps : List Nat) (assign body : Code) (st : LS) (r : Loop) : Prop :=
  st = .over ∨ (r.params.toList = ps ∧ r.assign = assign ∧ r.body = body ∧ LRel M ρ tm r.tmps.toList ∧
    match st with
    | .ready => r.state = .ready ∧ r.pending = none
    | .busy => r.state = .busy
    | .done e => r.state = .done ∧ r.pending = some e.code
    | .over => True)

/-- Entries bear the times of their places. -/
def Born (es : Array MapEntry) (clock : Nat) : Prop := clock = es.size ∧ ∀ (i : Nat) (e : MapEntry), es[i]? = some e → e.born = i
theorem Born.nil : Born #[] 0 := ⟨rfl, by simp⟩
theorem Born.push {es : Array MapEntry} {clock : Nat} (h : Born es clock) (key val : Value) : Born (es.push { key, val, born := clock }) (clock + 1) := by
  obtain ⟨h1, h2⟩ := h
  refine ⟨by simp [h1], fun i e he => ?_⟩
  rw [Array.getElem?_push] at he
  split at he
  · rename_i hi; cases he; simp [h1, hi]
  · exact h2 i e he
theorem Born.modify {es : Array MapEntry} {clock : Nat} (h : Born es clock) (i : Nat) (f : MapEntry → MapEntry) (hb : ∀ e, (f e).born = e.born) : Born (es.modify i f) clock := by
  obtain ⟨h1, h2⟩ := h
  refine ⟨by simp [h1], fun j e he => ?_⟩
  rw [Array.getElem?_modify] at he
  split at he
  · obtain ⟨e0, h3, rfl⟩ := Option.map_eq_some_iff.1 he
    rw [hb]; exact h2 j e0 h3
  · exact h2 j e he

def BlkRel (w : World) (M : Mem) (ρ : Rho) (p : Pl) : Blk → Prop
  | .row cs true ver => p.ver = ver ∧ p.fix = false ∧ cs.length ≤ p.cap ∧ ∀ j, j < p.cap → ∃ x, w.cell? ⟨p.block, p.off + j, none⟩ = some x ∧
      w.frozen? ⟨p.block, p.off + j, none⟩ = false ∧ M ⟨p.block, p.off + j, none⟩ = none ∧ ∀ v, cs[j]? = some v → VRel M ρ v x
  | .row cs false ver => p.ver = ver ∧ p.fix = false ∧ cs.length ≤ p.cap ∧ CRel M ρ p.block p.off cs
  | .map es => p.fix = true ∧ ∃ ces clock, w.heap[p.block]? = some (.map ces clock) ∧ EsRel M ρ es ces.toList ∧ Born ces clock
  | .iter s pos => p.fix = true ∧ ∃ bs, w.heap[p.block]? = some (.stringIter bs pos) ∧ bs.data.toList = s
  | .loop fn tm ps a b st => p.fix = true ∧ ∃ r, w.heap[p.block]? = some (.loop r) ∧ LoopRel M ρ fn tm ps a b st r
  | .miter m since seen last => p.fix = true ∧ ∃ om, w.heap[p.block]? = some (.mapIter om since seen.toArray last) ∧ VRel M ρ m (.map om)

/-- A cell that a block owns. -/
def OwnB (ρ : Rho) (H : Heap) (b : Nat) (a : Addr) : Prop :=
  ∃ cs ver p j, H.get b = some (.row cs true ver) ∧ ρ b = some p ∧ j < p.cap ∧ a = ⟨p.block, p.off + j, none⟩
/-- An object that a block is. -/
def ObjB (ρ : Rho) (H : Heap) (b : Nat) (r : Nat) : Prop :=
  ∃ x p, H.get b = some x ∧ x.isObj = true ∧ ρ b = some p ∧ r = p.block
def Own (ρ : Rho) (H : Heap) (a : Addr) : Prop := ∃ b, OwnB ρ H b a
def OwnObj (ρ : Rho) (H : Heap) (r : Nat) : Prop := ∃ b, ObjB ρ H b r

structure HRel (B : Mem) (w : World) (M : Mem) (ρ : Rho) (H : Heap) : Prop where
  base : B.le M
  mem : ∀ a x, M a = some x → w.cell? a = some x
  dom : ∀ b, (ρ b).isSome = (H.get b).isSome
  rel : ∀ b x p, H.get b = some x → ρ b = some p → BlkRel w M ρ p x
  sep : ∀ b b' a, OwnB ρ H b a → OwnB ρ H b' a → b = b'
  sepo : ∀ b b' r, ObjB ρ H b r → ObjB ρ H b' r → b = b'
  shp : ∀ b p t, ρ b = some p → p.ty = some t → w.shape? p.block = some t ∧ p.off = 0 ∧ p.cap = t.2
  off0 : ∀ b p, ρ b = some p → p.ver = 0 → p.off = 0

/-- From one world to a later one: what isn't owned is kept. -/
theorem cell_lt {w : World} {a : Addr} (h : (w.cell? a).isSome = true) : a.block < w.heap.size := by
  obtain ⟨v, hv⟩ := Option.isSome_iff_exists.1 h
  exact World.block_lt_of_cell? _ _ hv
structure Kept (Ow : Addr → Prop) (Ob : Nat → Prop) (w w' : World) : Prop where
  os : w'.os = w.os
  tape : w'.tape = w.tape
  output : w'.output = w.output
  size : w.heap.size ≤ w'.heap.size
  blk : ∀ r, r < w.heap.size → (∀ a, a.block = r → ¬ Ow a) → ¬ Ob r → w'.heap[r]? = w.heap[r]?
  cell : ∀ a, a.block < w.heap.size → ¬ Ow a → w'.cell? a = w.cell? a
  frz : ∀ a, (w.cell? a).isSome = true → ¬ Ow a → w'.frozen? a = w.frozen? a
  shp : ∀ r, r < w.heap.size → w'.shape? r = w.shape? r

structure Evo (w : World) (M : Mem) (ρ : Rho) (H : Heap) (w' : World) (M' : Mem) (ρ' : Rho) (H' : Heap) : Prop where
  kept : Kept (Own ρ H) (OwnObj ρ H) w w'
  mem : M.le M'
  memnew : ∀ a x, M' a = some x → M a = some x ∨ Own ρ H a ∨ w.heap.size ≤ a.block
  own : ∀ a, Own ρ' H' a → Own ρ H a ∨ w.heap.size ≤ a.block
  obj : ∀ r, OwnObj ρ' H' r → OwnObj ρ H r ∨ w.heap.size ≤ r

theorem Kept.refl (Ow : Addr → Prop) (Ob : Nat → Prop) (w : World) : Kept Ow Ob w w :=
  ⟨rfl, rfl, rfl, Nat.le_refl _, fun _ _ _ _ => rfl, fun _ _ _ => rfl, fun _ _ _ => rfl, fun _ _ => rfl⟩
theorem Kept.weaken {Ow Ow' : Addr → Prop} {Ob Ob' : Nat → Prop} {w w' : World} (h : Kept Ow Ob w w') (ho : ∀ a, Ow a → Ow' a) (hb : ∀ r, Ob r → Ob' r) : Kept Ow' Ob' w w' :=
  ⟨h.os, h.tape, h.output, h.size, fun r hr ha hn => h.blk r hr (fun a e x => ha a e (ho a x)) (fun x => hn (hb r x)), fun a hl hn => h.cell a hl fun x => hn (ho a x), fun a hl hn => h.frz a hl fun x => hn (ho a x), h.shp⟩
theorem Kept.trans {Ow Ow' : Addr → Prop} {Ob Ob' : Nat → Prop} {w w' w'' : World} (h : Kept Ow Ob w w') (h' : Kept Ow' Ob' w' w'')
    (ho : ∀ a, Ow' a → Ow a ∨ w.heap.size ≤ a.block) (hb : ∀ r, Ob' r → Ob r ∨ w.heap.size ≤ r) : Kept Ow Ob w w'' := by
  have hs := h.size
  refine ⟨h'.os.trans h.os, h'.tape.trans h.tape, h'.output.trans h.output, Nat.le_trans h.size h'.size, fun r hr ha hn => ?_, fun a hl hn => ?_, fun a hl hn => ?_, fun r hr => (h'.shp r (by omega)).trans (h.shp r hr)⟩
  · rw [h'.blk r (by omega) (fun a e x => ?_) (fun x => ?_), h.blk r hr ha hn]
    · rcases ho a x with y | y
      · exact ha a e y
      · omega
    · rcases hb r x with y | y
      · exact hn y
      · omega
  · rw [h'.cell a (by omega) (fun x => ?_), h.cell a hl hn]
    rcases ho a x with y | y
    · exact hn y
    · omega
  · rw [h'.frz a (by rw [h.cell a (cell_lt hl) hn]; exact hl) (fun x => ?_), h.frz a hl hn]
    rcases ho a x with y | y
    · exact hn y
    · have := cell_lt hl; omega

theorem Evo.refl (w : World) (M : Mem) (ρ : Rho) (H : Heap) : Evo w M ρ H w M ρ H :=
  ⟨Kept.refl _ _ _, Mem.le_refl _, fun _ _ h => .inl h, fun _ h => .inl h, fun _ h => .inl h⟩
theorem Evo.trans {w w' w'' : World} {M M' M'' : Mem} {ρ ρ' ρ'' : Rho} {H H' H'' : Heap} (h : Evo w M ρ H w' M' ρ' H') (h' : Evo w' M' ρ' H' w'' M'' ρ'' H'') :
    Evo w M ρ H w'' M'' ρ'' H'' := by
  have hs := h.kept.size
  refine ⟨h.kept.trans h'.kept h.own h.obj, Mem.le_trans h.mem h'.mem, fun a x hx => ?_, fun a ha => ?_, fun r hr => ?_⟩
  · rcases h'.memnew a x hx with h1 | h1 | h1
    · exact h.memnew a x h1
    · exact .inr (h.own a h1)
    · exact .inr (.inr (by omega))
  · rcases h'.own a ha with h1 | h1
    · exact h.own a h1
    · exact .inr (by omega)
  · rcases h'.obj r hr with h1 | h1
    · exact h.obj r h1
    · exact .inr (by omega)

theorem BlkRel.mono {w w' : World} {M M' : Mem} {ρ ρ' : Rho} {p : Pl} {x : Blk} (h : BlkRel w M ρ p x) (hM : M.le M') (hρ : ρ.le ρ')
    (hcell : ∀ j, j < p.cap → w'.cell? ⟨p.block, p.off + j, none⟩ = w.cell? ⟨p.block, p.off + j, none⟩ ∧ w'.frozen? ⟨p.block, p.off + j, none⟩ = w.frozen? ⟨p.block, p.off + j, none⟩ ∧
      (M ⟨p.block, p.off + j, none⟩ = none → M' ⟨p.block, p.off + j, none⟩ = none) ∨ (match x with | .row _ true _ => False | _ => True))
    (hobj : x.isObj = true → w'.heap[p.block]? = w.heap[p.block]?) : BlkRel w' M' ρ' p x := by
  cases x with
  | row cs mu ver =>
    cases mu with
    | true =>
      obtain ⟨hv, hf, hl, hr⟩ := h
      refine ⟨hv, hf, hl, fun j hj => ?_⟩
      obtain ⟨x, hx, hz, hm, hrel⟩ := hr j hj
      rcases hcell j hj with ⟨h1, h2, h3⟩ | h1
      · exact ⟨x, h1.trans hx, h2.trans hz, h3 hm, fun v hv => VRel.mono hM hρ v x (hrel v hv)⟩
      · exact h1.elim
    | false =>
      obtain ⟨hv, hf, hl, hc⟩ := h
      exact ⟨hv, hf, hl, CRel.mono hM hρ _ _ _ hc⟩
  | map es =>
    obtain ⟨hf, ces, clock, hb, hr, hbo⟩ := h
    refine ⟨hf, ces, clock, (hobj rfl).trans hb, ?_, hbo⟩
    clear hbo hb hobj hcell
    revert hr
    generalize ces.toList = l
    induction es generalizing l with
    | nil => exact id
    | cons e r ih =>
      rintro ⟨e', es', rfl, hk, hv, hr⟩
      exact ⟨e', es', rfl, VRel.mono hM hρ _ _ hk, VRel.mono hM hρ _ _ hv, ih _ hr⟩
  | iter s pos =>
    obtain ⟨hf, bs, hb, hr⟩ := h
    exact ⟨hf, bs, (hobj rfl).trans hb, hr⟩
  | loop fn tm ps a b st =>
    obtain ⟨hf, r, hb, hr⟩ := h
    refine ⟨hf, r, (hobj rfl).trans hb, hr.imp id fun ⟨h1, h2, h3, h4, h5⟩ => ⟨h1, h2, h3, LRel.mono hM hρ _ _ h4, h5⟩⟩
  | miter m since seen last =>
    obtain ⟨hf, om, hb, hr⟩ := h
    exact ⟨hf, om, (hobj rfl).trans hb, VRel.mono hM hρ _ _ hr⟩

def upd (ρ : Rho) (b : Nat) (p : Pl) : Rho := fun b' => if b' = b then some p else ρ b'
theorem upd_same (ρ : Rho) (b : Nat) (p : Pl) : upd ρ b p b = some p := by simp [upd]
theorem upd_other (ρ : Rho) (b b' : Nat) (p : Pl) (h : b' ≠ b) : upd ρ b p b' = ρ b' := by simp [upd, h]
theorem upd_le {ρ : Rho} {b : Nat} {p' : Pl} (h : ∀ p, ρ b = some p → p.ext p') : ρ.le (upd ρ b p') := fun c p hp => by
  by_cases e : c = b
  · subst e; exact ⟨p', upd_same _ _ _, h p hp⟩
  · exact ⟨p, by rw [upd_other _ _ _ _ e]; exact hp, p.ext_refl⟩

theorem OwnB.lt {B : Mem} {w : World} {M : Mem} {ρ : Rho} {H : Heap} (h : HRel B w M ρ H) {b : Nat} {a : Addr} (ho : OwnB ρ H b a) : a.block < w.heap.size ∧ M a = none := by
  obtain ⟨cs, ver, p, j, hb, hp, hj, rfl⟩ := ho
  obtain ⟨_, _, _, hr⟩ := h.rel b _ p hb hp
  obtain ⟨x, hx, _, hm, _⟩ := hr j hj
  exact ⟨World.block_lt_of_cell? _ _ hx, hm⟩
theorem OwnB.isSome {B : Mem} {w : World} {M : Mem} {ρ : Rho} {H : Heap} (h : HRel B w M ρ H) {b : Nat} {a : Addr} (ho : OwnB ρ H b a) : (w.cell? a).isSome = true := by
  obtain ⟨cs, ver, p, j, hb, hp, hj, rfl⟩ := ho
  obtain ⟨_, _, _, hr⟩ := h.rel b _ p hb hp
  obtain ⟨x, hx, _, hm, _⟩ := hr j hj
  rw [hx]; rfl
theorem ObjB.lt {B : Mem} {w : World} {M : Mem} {ρ : Rho} {H : Heap} (h : HRel B w M ρ H) {b : Nat} {r : Nat} (ho : ObjB ρ H b r) : r < w.heap.size ∧ (∀ a, a.block = r → w.cell? a = none) := by
  obtain ⟨x, p, hb, hx, hp, rfl⟩ := ho
  have hr := h.rel b x p hb hp
  have key : ∃ o, w.heap[p.block]? = some o ∧ ∀ c e f, o ≠ .cells c e f := by
    cases x with
    | row => simp [Blk.isObj] at hx
    | map es => obtain ⟨_, ces, clock, hb, _⟩ := hr; exact ⟨_, hb, by simp⟩
    | iter s pos => obtain ⟨_, bs, hb, _⟩ := hr; exact ⟨_, hb, by simp⟩
    | loop fn tm ps a b st => obtain ⟨_, r, hb, _⟩ := hr; exact ⟨_, hb, by simp⟩
    | miter => obtain ⟨_, r, hb, _⟩ := hr; exact ⟨_, hb, by simp⟩
  obtain ⟨o, ho, hn⟩ := key
  have hlt : p.block < w.heap.size := by
    rcases Nat.lt_or_ge p.block w.heap.size with h1 | h1
    · exact h1
    · rw [Array.getElem?_eq_none h1] at ho; cases ho
  refine ⟨hlt, fun a ha => ?_⟩
  unfold World.cell?
  rw [ha, ho]
  cases o <;> first | rfl | exact absurd rfl (hn _ _ _)

/-- ONE BLOCK IS LAID OR TURNED. -/
theorem HRel.turn {B : Mem} {w w' : World} {M : Mem} {ρ : Rho} {H : Heap} (h : HRel B w M ρ H) (b : Nat) (x : Blk) (p' : Pl)
    (hext : ∀ p, ρ b = some p → p.ext p')
    (hk : Kept (OwnB ρ H b) (ObjB ρ H b) w w')
    (hown : ∀ cs ver j, x = .row cs true ver → j < p'.cap → OwnB ρ H b ⟨p'.block, p'.off + j, none⟩ ∨ w.heap.size ≤ p'.block)
    (hobj : x.isObj = true → ObjB ρ H b p'.block ∨ w.heap.size ≤ p'.block)
    (hrel : BlkRel w' M (upd ρ b p') p' x) (hty : p'.ty = none ∨ ρ b = some p' ∨ (∀ t, p'.ty = some t → w'.shape? p'.block = some t ∧ p'.off = 0 ∧ p'.cap = t.2) := by first | exact .inl rfl | exact .inr (.inl (by assumption)))
    (hoff : p'.ver = 0 → p'.off = 0 := by first | exact fun _ => rfl | exact fun e => absurd e (Nat.succ_ne_zero _) | exact h.off0 _ _ (by assumption)) :
    HRel B w' M (upd ρ b p') (H.put b (some x)) ∧ Evo w M ρ H w' M (upd ρ b p') (H.put b (some x)) ∧ ρ.le (upd ρ b p') := by
  have hle := upd_le hext
  -- who owns a cell behind the turn
  have own' : ∀ c a, OwnB (upd ρ b p') (H.put b (some x)) c a → (c ≠ b ∧ OwnB ρ H c a) ∨ (c = b ∧ (OwnB ρ H b a ∨ w.heap.size ≤ a.block)) := by
    rintro c a ⟨cs, ver, p, j, hc, hp, hj, rfl⟩
    by_cases e : c = b
    · subst e
      rw [Heap.get_put_same] at hc
      rw [upd_same] at hp
      cases hp; cases hc
      exact .inr ⟨rfl, hown cs ver j rfl hj⟩
    · rw [Heap.get_put_other _ _ _ _ e] at hc
      rw [upd_other _ _ _ _ e] at hp
      exact .inl ⟨e, cs, ver, p, j, hc, hp, hj, rfl⟩
  have obj' : ∀ c r, ObjB (upd ρ b p') (H.put b (some x)) c r → (c ≠ b ∧ ObjB ρ H c r) ∨ (c = b ∧ (ObjB ρ H b r ∨ w.heap.size ≤ r)) := by
    rintro c r ⟨y, p, hc, hy, hp, rfl⟩
    by_cases e : c = b
    · subst e
      rw [Heap.get_put_same] at hc
      rw [upd_same] at hp
      cases hp; cases hc
      exact .inr ⟨rfl, hobj hy⟩
    · rw [Heap.get_put_other _ _ _ _ e] at hc
      rw [upd_other _ _ _ _ e] at hp
      exact .inl ⟨e, y, p, hc, hy, hp, rfl⟩
  refine ⟨⟨h.base, fun a y hy => ?_, fun c => ?_, fun c y p hc hp => ?_, fun c c' a h1 h2 => ?_, fun c c' r h1 h2 => ?_, fun c q t hq ht => ?_, fun c q hq h0 => ?_⟩, ⟨?_, Mem.le_refl _, fun _ _ h => .inl h, ?_, ?_⟩, hle⟩
  · have hy' := h.mem a y hy
    rw [hk.cell a (World.block_lt_of_cell? _ _ hy') (fun ho => by have := (OwnB.lt h ho).2; rw [this] at hy; cases hy)]
    exact hy'
  · by_cases e : c = b
    · subst e; simp [upd_same, Heap.get_put_same]
    · rw [upd_other _ _ _ _ e, Heap.get_put_other _ _ _ _ e]; exact h.dom c
  · by_cases e : c = b
    · subst e
      rw [Heap.get_put_same] at hc
      rw [upd_same] at hp
      cases hp; cases hc; exact hrel
    · rw [Heap.get_put_other _ _ _ _ e] at hc
      rw [upd_other _ _ _ _ e] at hp
      refine (h.rel c y p hc hp).mono (Mem.le_refl _) hle (fun j hj => ?_) (fun ho => ?_)
      · cases y with
        | row cs mu ver =>
          cases mu with
          | true =>
            have hoc : OwnB ρ H c ⟨p.block, p.off + j, none⟩ := ⟨cs, ver, p, j, hc, hp, hj, rfl⟩
            have hl := (OwnB.lt h hoc).1
            have hn : ¬ OwnB ρ H b ⟨p.block, p.off + j, none⟩ := fun hb => e (h.sep _ _ _ hoc hb)
            exact .inl ⟨hk.cell _ hl hn, hk.frz _ (OwnB.isSome h hoc) hn, id⟩
          | false => exact .inr trivial
        | map es => exact .inr trivial
        | iter s pos => exact .inr trivial
        | loop => exact .inr trivial
        | miter => exact .inr trivial
      · have hoc : ObjB ρ H c p.block := ⟨y, p, hc, ho, hp, rfl⟩
        have hl := ObjB.lt h hoc
        refine hk.blk _ hl.1 (fun a ha hb => ?_) (fun hb => e (h.sepo _ _ _ hoc hb))
        obtain ⟨cs, ver, q, j, hq, hq', hj, rfl⟩ := hb
        obtain ⟨_, _, _, hr⟩ := h.rel b _ q hq hq'
        obtain ⟨z, hz, _⟩ := hr j hj
        rw [hl.2 _ ha] at hz; cases hz
  · rcases own' c a h1 with ⟨n1, o1⟩ | ⟨rfl, o1⟩ <;> rcases own' c' a h2 with ⟨n2, o2⟩ | ⟨e2, o2⟩
    · exact h.sep _ _ _ o1 o2
    · subst e2
      rcases o2 with o2 | o2
      · exact absurd (h.sep _ _ _ o1 o2) n1
      · have := (OwnB.lt h o1).1; omega
    · rcases o1 with o1 | o1
      · exact absurd (h.sep _ _ _ o2 o1) n2
      · have := (OwnB.lt h o2).1; omega
    · exact e2.symm
  · rcases obj' c r h1 with ⟨n1, o1⟩ | ⟨rfl, o1⟩ <;> rcases obj' c' r h2 with ⟨n2, o2⟩ | ⟨e2, o2⟩
    · exact h.sepo _ _ _ o1 o2
    · subst e2
      rcases o2 with o2 | o2
      · exact absurd (h.sepo _ _ _ o1 o2) n1
      · have := (ObjB.lt h o1).1; omega
    · rcases o1 with o1 | o1
      · exact absurd (h.sepo _ _ _ o2 o1) n2
      · have := (ObjB.lt h o2).1; omega
    · exact e2.symm
  · have old : ∀ c q, ρ c = some q → q.ty = some t → w'.shape? q.block = some t ∧ q.off = 0 ∧ q.cap = t.2 := fun c q hq ht => by
      obtain ⟨s1, s2⟩ := h.shp c q t hq ht
      refine ⟨(hk.shp _ ?_).trans s1, s2⟩
      rcases Nat.lt_or_ge q.block w.heap.size with h' | h'
      · exact h'
      · unfold World.shape? at s1; rw [Array.getElem?_eq_none h'] at s1; cases s1
    by_cases e : c = b
    · subst e
      rw [upd_same] at hq
      cases hq
      rcases hty with h' | h' | h'
      · rw [h'] at ht; cases ht
      · exact old _ _ h' ht
      · exact h' t ht
    · rw [upd_other _ _ _ _ e] at hq
      exact old c q hq ht
  · by_cases e : c = b
    · subst e
      rw [upd_same] at hq
      cases hq
      exact hoff h0
    · rw [upd_other _ _ _ _ e] at hq
      exact h.off0 c q hq h0
  · exact hk.weaken (fun a ha => ⟨b, ha⟩) (fun r hr => ⟨b, hr⟩)
  · rintro a ⟨c, hc⟩
    rcases own' c a hc with ⟨_, o1⟩ | ⟨_, o1 | o1⟩
    · exact .inl ⟨c, o1⟩
    · exact .inl ⟨b, o1⟩
    · exact .inr o1
  · rintro r ⟨c, hc⟩
    rcases obj' c r hc with ⟨_, o1⟩ | ⟨_, o1 | o1⟩
    · exact .inl ⟨c, o1⟩
    · exact .inl ⟨b, o1⟩
    · exact .inr o1

/-- Nothing of ours is turned. -/
theorem HRel.pass {B : Mem} {w w' : World} {M : Mem} {ρ : Rho} {H : Heap} (h : HRel B w M ρ H) (hk : Kept (fun _ => False) (fun _ => False) w w') :
    HRel B w' M ρ H ∧ Evo w M ρ H w' M ρ H := by
  refine ⟨⟨h.base, fun a x hx => ?_, h.dom, fun b x p hb hp => ?_, h.sep, h.sepo, fun b p t hp ht => ?_, h.off0⟩, hk.weaken (fun _ hf => hf.elim) (fun _ hf => hf.elim), Mem.le_refl _, fun _ _ h => .inl h, fun _ h => .inl h, fun _ h => .inl h⟩
  · have hx' := h.mem a x hx
    rw [hk.cell a (World.block_lt_of_cell? _ _ hx') id]
    exact hx'
  · refine (h.rel b x p hb hp).mono (Mem.le_refl _) (Rho.le_refl _) (fun j hj => ?_) (fun ho => ?_)
    · cases x with
      | row cs mu ver =>
        cases mu with
        | true =>
          have hoc : OwnB ρ H b ⟨p.block, p.off + j, none⟩ := ⟨cs, ver, p, j, hb, hp, hj, rfl⟩
          have hl := (OwnB.lt h hoc).1
          exact .inl ⟨hk.cell _ hl id, hk.frz _ (OwnB.isSome h hoc) id, id⟩
        | false => exact .inr trivial
      | map es => exact .inr trivial
      | iter s pos => exact .inr trivial
      | loop => exact .inr trivial
      | miter => exact .inr trivial
    · exact hk.blk _ (ObjB.lt h ⟨x, p, hb, ho, hp, rfl⟩).1 (fun _ _ => id) id
  · obtain ⟨s1, s2⟩ := h.shp b p t hp ht
    refine ⟨(hk.shp _ ?_).trans s1, s2⟩
    rcases Nat.lt_or_ge p.block w.heap.size with h' | h'
    · exact h'
    · unfold World.shape? at s1; rw [Array.getElem?_eq_none h'] at s1; cases s1

theorem shape_heap {w w' : World} {r : Nat} (h : w'.heap[r]? = w.heap[r]?) : w'.shape? r = w.shape? r := by
  unfold World.shape?; rw [h]
theorem shape_alloc (w : World) (o : Obj) {r : Nat} (hr : r < w.heap.size) : (w.alloc o).shape? r = w.shape? r := by
  refine shape_heap ?_
  show (w.heap.push _)[r]? = _
  rw [Array.getElem?_push, if_neg (by omega)]
theorem shape_setCell (w : World) (a : Addr) (v : Value) (r : Nat) : (w.setCell a v).shape? r = w.shape? r := by
  simp only [World.setCell, World.shape?, Array.getElem?_modify]
  by_cases hb : a.block = r
  · simp only [hb, if_true]
    cases hh : w.heap[r]? with
    | none => simp
    | some x =>
      cases x <;> simp
      split <;> simp
  · simp [hb]
theorem Kept.alloc (w : World) (o : Obj) : Kept (fun _ => False) (fun _ => False) w (w.alloc o) := by
  refine ⟨rfl, rfl, rfl, by simp, fun r hr _ _ => ?_, fun a hl _ => World.cell?_alloc_lt _ _ _ hl, fun a hl _ => World.frozen?_alloc_old _ _ _ (by have := cell_lt hl; omega), fun r hr => shape_alloc _ _ hr⟩
  show (w.heap.push _)[r]? = _
  rw [Array.getElem?_push, if_neg (by omega)]
theorem Kept.drew (w : World) : Kept (fun _ => False) (fun _ => False) w w.drew :=
  ⟨rfl, rfl, rfl, Nat.le_refl _, fun _ _ _ _ => rfl, fun _ _ _ => rfl, fun _ _ _ => rfl, fun _ _ => rfl⟩

end Go.Ev
