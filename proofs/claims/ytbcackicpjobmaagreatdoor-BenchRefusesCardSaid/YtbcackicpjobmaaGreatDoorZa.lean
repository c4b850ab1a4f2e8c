/- A part of the proof of BenchRefuses: no statement of the seat's stands here. -/
import Derived.Shelf.Strings.OnBuilder
import Derived.Test.YtbcackicpjobmaaGreatDoorEvK
import Derived.Test.YtbcackicpjobmaaGreatDoorEvL
set_option linter.unusedSectionVars false
set_option linter.unusedSimpArgs false
set_option linter.unusedVariables false
set_option linter.all false
/- strings.Builder's copyCheck and String, at a builder that lies at a typed variable's beginning. -/
set_option linter.unusedVariables false
namespace Go.Proofs
open Go.Shelf Go.RowKit
variable {P : Program} {ρ : Ren}
set_option maxHeartbeats 1000000 in
set_option maxRecDepth 100000 in
theorem Any.copyCheck_fresh (L : Lays.n240 P ρ) (X : Builder.X72 P ρ) {T n : Nat} (hn : 0 < n) (hlies : liesAt P P.depth T (n / P.cellsOf T) 0 (ρ.t 72) 1 = true) (b : Nat) (w : World)
    (h0 : w.cell? ⟨b, 0, none⟩ = some (.pointer none)) (hsh : w.shape? b = some (T, n)) (hfz : w.frozen? ⟨b, 0, none⟩ = false) :
    Calls P (ρ.f 240) #[.pointer (some ⟨b, 0, none⟩)] w fun e w' => e = .returned (.tuple #[]) ∧ w' = w.setCell ⟨b, 0, none⟩ (.pointer (some ⟨b, 0, none⟩)) := by
  obtain ⟨j, hj, hjs⟩ := Option.map_eq_some_iff.1 X.sizeBuilder
  have mixed := L.mixed
  have t72 := L.t72; have a72 := L.a72; have z72 := L.z72; have v72 := L.v72; have u72 := run_underlying L.t72
  have t70 := L.t70; have a70 := L.a70; have z70 := L.z70; have v70 := L.v70; have u70 := run_underlying L.t70
  have t9 := L.t9; have a9 := L.a9; have z9 := L.z9; have v9 := L.v9; have u9 := run_underlying L.t9
  have t4 := L.t4; have a4 := L.a4; have z4 := L.z4; have v4 := L.v4; have u4 := run_underlying L.t4
  have t164 := L.t164; have a164 := L.a164; have z164 := L.z164; have v164 := L.v164; have u164 := run_underlying L.t164
  go_enter L.f240, Body.n240_ntmps ρ
  go_wp2
  rw [Lib.run_to_unsafe w ⟨b, 0, none⟩ L.t70 L.t164 hj (by rw [hjs]; decide) hsh hn]
  simp only [Result.andThen]
  rw [Oper.upon_value]
  go_wp2
  rw [run_callFunc_extern L.f276 (by kernel_rfl) (by kernel_rfl) (by kernel_rfl) (e := Extern.AbiNoEscape.same) (by kernel_rfl)]
  rw [Lib.run_noEscape]
  simp only [Result.andThen]
  rw [Oper.upon_value]
  go_wp2
  rw [Lib.run_from_unsafe w ⟨b, 0, none⟩ L.t164 L.t70 hj hsh hlies]
  simp only [Result.andThen]
  rw [Oper.upon_value]
  go_wp2
  go_end0
  exact ⟨rfl, rfl⟩
set_option maxHeartbeats 1000000 in
set_option maxRecDepth 100000 in
theorem Any.bstring (L : Lays.n169 P ρ) (X : Builder.Extra P ρ) (b g cap n : Nat) (l : List UInt8) (w : World) (h0 : l ≠ []) (hc1 : w.cell? ⟨b, 1, none⟩ = some (.slice (some ⟨g, 0, none⟩) l.length cap)) (hcap : cap ≠ 0)
    (hsh : w.shape? g = some (ρ.t 5, n)) (hln : l.length ≤ n) (h63 : l.length ≤ 9223372036854775807) (hcell : ∀ j x, l[j]? = some x → w.cell? ⟨g, j, none⟩ = some (.int .u8 x.toNat)) :
    Calls P (ρ.f 169) #[.pointer (some ⟨b, 0, none⟩)] w fun e w' => e = .returned (.string ⟨l.toArray⟩) ∧ w' = w.drew.freeze ⟨g, 0, none⟩ l.length := by
  have c1 : w.drew.cell? ⟨b, 1, none⟩ = some (.slice (some ⟨g, 0, none⟩) l.length cap) := hc1
  have hSD : (Builtin.unsafeSliceData_ #[(ρ.t 37)] (ρ.t 127) #[.slice (some ⟨g, 0, none⟩) l.length cap]).run P w.drew = .ok (.pointer (some ⟨g, 0, none⟩)) w.drew :=
    Lib.run_unsafeSliceData_row _ _ _ _ _ _ hcap
  have hUS : (Builtin.unsafeString_ #[(ρ.t 127), (ρ.t 3)] (ρ.t 9) #[.pointer (some ⟨g, 0, none⟩), .int .i64 l.length]).run P w.drew = .ok (.string ⟨l.toArray⟩) (w.drew.freeze ⟨g, 0, none⟩ l.length) := by
    refine Lib.run_unsafeString_row w.drew (ρ.t 127) (ρ.t 3) (ρ.t 9) (ρ.t 5) L.t127 X.cellsByte g n hsh l h0 hln h63 ?_
    intro j x hx
    have := hcell j x hx
    rw [Go.Ev.add_none _ _ rfl]
    simpa using this
  have mixed := L.mixed
  have t72 := L.t72; have a72 := L.a72; have z72 := L.z72; have v72 := L.v72; have u72 := run_underlying L.t72
  have t70 := L.t70; have a70 := L.a70; have z70 := L.z70; have v70 := L.v70; have u70 := run_underlying L.t70
  have t37 := L.t37; have a37 := L.a37; have z37 := L.z37; have v37 := L.v37; have u37 := run_underlying L.t37
  have t127 := L.t127; have a127 := L.a127; have z127 := L.z127; have v127 := L.v127; have u127 := run_underlying L.t127
  have t3 := L.t3; have a3 := L.a3; have z3 := L.z3; have v3 := L.v3; have u3 := run_underlying L.t3
  have t9 := L.t9; have a9 := L.a9; have z9 := L.z9; have v9 := L.v9; have u9 := run_underlying L.t9
  have t5 := X.t5; have a5 := X.a5; have z5 := X.z5; have v5 := X.v5; have u5 := run_underlying X.t5
  go_enter L.f169, Body.n169_ntmps ρ
  go_wp2
  go_region_o
  all_goals (go_wp2; go_ret; exact ⟨rfl, rfl⟩)
end Go.Proofs
namespace Go.Ev
open Go Go.Shelf Go.Proofs

theorem cell_freeze (w : World) (a : Addr) (n : Nat) (b : Addr) : (w.freeze a n).cell? b = w.cell? b := by
  unfold World.freeze
  split
  · rfl
  · simp only [World.cell?, Array.getElem?_modify]
    by_cases hb : a.block = b.block
    · simp only [hb, if_true]
      cases hh : w.heap[b.block]? with
      | none => simp
      | some x => cases x <;> simp
    · simp [hb]
theorem shape_freeze (w : World) (a : Addr) (n : Nat) (r : Nat) : (w.freeze a n).shape? r = w.shape? r := by
  unfold World.freeze
  split
  · rfl
  · simp only [World.shape?, Array.getElem?_modify]
    by_cases hb : a.block = r
    · simp only [hb, if_true]
      cases hh : w.heap[r]? with
      | none => simp
      | some x => cases x <;> simp
    · simp [hb]
theorem heap_freeze (w : World) (a : Addr) (n : Nat) {r : Nat} (h : r ≠ a.block) : (w.freeze a n).heap[r]? = w.heap[r]? := by
  unfold World.freeze
  split
  · rfl
  · simp only [Array.getElem?_modify]
    rw [if_neg (Ne.symm h)]
theorem frozen_freeze (w : World) (a : Addr) (n : Nat) {b : Addr} (h : b.block ≠ a.block) : (w.freeze a n).frozen? b = w.frozen? b := by
  unfold World.frozen?
  rw [heap_freeze w a n h]
theorem size_freeze (w : World) (a : Addr) (n : Nat) : (w.freeze a n).heap.size = w.heap.size := by
  unfold World.freeze
  split
  · rfl
  · simp

section
variable {B : Mem} {w : World} {M : Mem} {ρ : Rho} {H : Heap}
/-- Memory that nobody of ours owns is frozen. -/
theorem HRel.freezeW (h : HRel B w M ρ H) (a : Addr) (n : Nat) (hno : ∀ c : Addr, c.block = a.block → ¬ Own ρ H c) (hobj : ¬ OwnObj ρ H a.block) : HRel B (w.freeze a n) M ρ H := by
  refine ⟨h.base, fun c x hx => by rw [cell_freeze]; exact h.mem c x hx, h.dom, fun b x p hb hp => ?_, h.sep, h.sepo, fun b p t hp ht => by rw [shape_freeze]; exact h.shp b p t hp ht, h.off0⟩
  refine (h.rel b x p hb hp).mono (Mem.le_refl _) (Rho.le_refl _) (fun j hj => ?_) (fun ho => ?_)
  · cases x with
    | row cs mu ver =>
      cases mu with
      | true =>
        refine .inl ⟨cell_freeze _ _ _ _, frozen_freeze _ _ _ (fun e => hno _ e ⟨b, cs, ver, p, j, hb, hp, hj, rfl⟩), id⟩
      | false => exact .inr trivial
    | map es => exact .inr trivial
    | iter s pos => exact .inr trivial
    | loop => exact .inr trivial
    | miter => exact .inr trivial
  · exact heap_freeze _ _ _ (fun e => hobj ⟨b, x, p, hb, ho, hp, e.symm⟩)

/-- Bytes that are bytes. -/
def byteS : List V → Option (List UInt8)
  | [] => some []
  | .int .u8 n :: r => if 0 ≤ n ∧ n < 256 then (byteS r).map (UInt8.ofNat n.toNat :: ·) else none
  | _ => none
theorem byteS_spec : ∀ {cs : List V} {s : List UInt8}, byteS cs = some s → s.length = cs.length ∧ ∀ (j : Nat) (x : UInt8), s[j]? = some x → cs[j]? = some (.int .u8 x.toNat)
  | [], s, h => by cases h; exact ⟨rfl, by simp⟩
  | v :: r, s, h => by
    unfold byteS at h
    split at h
    · rename_i he; cases he
    · rename_i n r' he
      cases he
      split at h
      · rename_i hn
        obtain ⟨t, ht, rfl⟩ := Option.map_eq_some_iff.1 h
        obtain ⟨h1, h2⟩ := byteS_spec ht
        refine ⟨by simp [h1], fun j x hx => ?_⟩
        cases j with
        | zero =>
          simp at hx
          subst hx
          have : (UInt8.ofNat n.toNat).toNat = n.toNat := by simp; omega
          simp [this]
          omega
        | succ j => simpa using h2 j x (by simpa using hx)
      · cases h
    · cases h

def spCheck (KT : TypeId) (KN : Nat) (l : List V) (H : Heap) : Option (V × Heap) := match l with
  | [.tptr t n b] => if t = KT ∧ n = KN ∧ b < H.length then match H.get b with
    | some (.row [a0, buf] true 0) => match a0 with
      | .nilptr => some (.tuple [], H.put b (some (.row [.tptr t n b, buf] true 0)))
      | .tptr _ _ b' => if b' = b then some (.tuple [], H) else none
      | _ => none
    | _ => none
    else none
  | _ => none
def spString (KT : TypeId) (KN : Nat) (e : TypeId) (l : List V) (H : Heap) : Option (V × Heap) := match l with
  | [.tptr t n b] => if t = KT ∧ n = KN ∧ b < H.length then match H.get b with
    | some (.row [a0, .tsl t' c ver len] true 0) => if t' = e ∧ c < H.length ∧ 0 < len ∧ len ≤ 1000000000000 then match H.get c with
        | some (.row cs true ver') => if ver' = ver ∧ len ≤ cs.length then match byteS (cs.take len) with
            | some s => some (.str s, freezeRow H c)
            | none => none
          else none
        | _ => none
      else none
    | _ => none
    else none
  | _ => none

theorem args1 {M : Mem} {ρ : Rho} {x : V} {cargs : Array Value} (h : LRel M ρ [x] cargs.toList) : ∃ a, cargs = #[a] ∧ VRel M ρ x a := by
  unfold LRel at h
  obtain ⟨a, xs, h1, h2, h3⟩ := h
  unfold LRel at h3
  subst h3
  exact ⟨a, by rw [← Array.toList_inj, h1], h2⟩
theorem row_mut {b : Nat} {cs : List V} {ver : Nat} {p : Pl} (h : HRel B w M ρ H) (hb : H.get b = some (.row cs true ver)) (hp : ρ b = some p) :
    p.ver = ver ∧ cs.length ≤ p.cap ∧ ∀ j, j < p.cap → ∃ x, w.cell? ⟨p.block, p.off + j, none⟩ = some x ∧ w.frozen? ⟨p.block, p.off + j, none⟩ = false ∧ M ⟨p.block, p.off + j, none⟩ = none ∧ ∀ v, cs[j]? = some v → VRel M ρ v x := by
  obtain ⟨h1, _, h2, h3⟩ := h.rel b _ p hb hp
  exact ⟨h1, h2, h3⟩

theorem spCheck_ok {P : Program} {B : Mem} {r : Ren} (L : Lays.n240 P r) (X : Builder.X72 P r) {KT : TypeId} {KN : Nat} (hn : 0 < KN) (hlies : liesAt P P.depth KT (KN / P.cellsOf KT) 0 (r.t 72) 1 = true)
    {args : List V} {H H' : Heap} {v : V} (h : spCheck KT KN args H = some (v, H')) : CallOK P B (r.f 240) args H v H' := by
  unfold spCheck at h
  split at h
  case h_2 => cases h
  rename_i t n b
  split at h
  case isFalse => cases h
  rename_i hc
  obtain ⟨rfl, rfl, hb⟩ := hc
  split at h
  case h_2 => cases h
  rename_i a0 buf hg
  intro w M ρ cargs hr ha
  obtain ⟨ca, rfl, hv⟩ := args1 ha
  have hv0 := hv
  unfold VRel at hv
  obtain ⟨p, ad, hp, rfl, hpa⟩ := hv
  obtain ⟨hver, hcap, hcells⟩ := row_mut hr hg hp
  obtain ⟨rfl, hty⟩ := hpa hver.symm
  obtain ⟨s1, s2, s3⟩ := hr.shp b p _ hp hty
  obtain ⟨x0, c0, f0, m0, r0⟩ := hcells 0 (by simp at hcap; omega)
  have r0 := r0 a0 rfl
  rw [s2] at c0 f0 m0
  simp only [Nat.add_zero] at c0 f0 m0
  split at h
  · simp only [Option.some.injEq, Prod.mk.injEq] at h
    obtain ⟨rfl, rfl⟩ := h
    unfold VRel at r0
    subst r0
    rw [s2]
    refine (Any.copyCheck_fresh L X hn hlies p.block w c0 s1 f0).mono ?_
    rintro e w' ⟨rfl, rfl⟩
    obtain ⟨_, ρ', k1, k2, k3⟩ := HRel.write hr hg hp (o := 0) (new := [.tptr t n b]) (xs := [.pointer (some ⟨p.block, p.off, none⟩)]) (by simp at hcap ⊢; try omega) (by
      unfold LRel; exact ⟨_, [], rfl, hv0, by unfold LRel; rfl⟩) rfl P
    have e1 : w.setCells p.block (p.off + 0) [.pointer (some ⟨p.block, p.off, none⟩)] = w.setCell ⟨p.block, 0, none⟩ (.pointer (some ⟨p.block, 0, none⟩)) := by
      rw [s2]; rfl
    rw [e1] at k1 k2
    refine ⟨_, M, ρ', rfl, k1, ?_, k2, fun j _ q hq => k3 j q hq⟩
    unfold VRel
    exact ⟨#[], rfl, by unfold LRel; rfl⟩
  · rename_i t' n' b'
    split at h
    case isFalse => cases h
    rename_i hbb
    subst hbb
    simp only [Option.some.injEq, Prod.mk.injEq] at h
    obtain ⟨rfl, rfl⟩ := h
    unfold VRel at r0
    obtain ⟨p', ad', hp', rfl, hpa'⟩ := r0
    rw [hp] at hp'; cases hp'
    obtain ⟨rfl, _⟩ := hpa' hver.symm
    rw [s2]
    rw [s2] at c0
    refine (Any.Builder_copyCheck_used L X p.block w c0).mono ?_
    rintro e w' ⟨rfl, rfl⟩
    refine ⟨_, M, ρ, rfl, hr, ?_, Evo.refl _ _ _ _, fun j _ q hq => ⟨q, hq, q.ext_refl⟩⟩
    unfold VRel
    exact ⟨#[], rfl, by unfold LRel; rfl⟩
  · cases h

theorem spString_ok {P : Program} {B : Mem} {r : Ren} (L : Lays.n169 P r) (X : Builder.Extra P r) {KT : TypeId} {KN : Nat} (hn : 1 < KN)
    {args : List V} {H H' : Heap} {v : V} (h : spString KT KN (r.t 5) args H = some (v, H')) : CallOK P B (r.f 169) args H v H' := by
  unfold spString at h
  split at h
  case h_2 => cases h
  rename_i t n b
  split at h
  case isFalse => cases h
  rename_i hc
  obtain ⟨rfl, rfl, hb⟩ := hc
  split at h
  case h_2 => cases h
  rename_i a0 t' c ver len hg
  split at h
  case isFalse => cases h
  rename_i hc
  obtain ⟨rfl, hcl, hlen, hl12⟩ := hc
  split at h
  case h_2 => cases h
  rename_i cs ver' hgc
  split at h
  case isFalse => cases h
  rename_i hc
  obtain ⟨rfl, hle⟩ := hc
  split at h
  case h_2 => cases h
  rename_i s hs
  simp only [Option.some.injEq, Prod.mk.injEq] at h
  obtain ⟨rfl, rfl⟩ := h
  obtain ⟨hsl, hsb⟩ := byteS_spec hs
  have hsl : s.length = len := by rw [hsl, List.length_take]; omega
  intro w M ρ cargs hr ha
  obtain ⟨ca, rfl, hv⟩ := args1 ha
  unfold VRel at hv
  obtain ⟨p, ad, hp, rfl, hpa⟩ := hv
  obtain ⟨hver, hcap, hcells⟩ := row_mut hr hg hp
  obtain ⟨rfl, hty⟩ := hpa hver.symm
  obtain ⟨s1, s2, s3⟩ := hr.shp b p _ hp hty
  obtain ⟨x1, c1, _, _, r1⟩ := hcells 1 (by simp at hcap; omega)
  have r1 := r1 _ rfl
  rw [s2] at c1
  unfold VRel at r1
  obtain ⟨q, g, cap, hq, hqv, rfl, hlc, hqq⟩ := r1
  obtain ⟨hqver, hqcap, hqcells⟩ := row_mut hr hgc hq
  obtain ⟨⟨hgq, hcq⟩, nn, hqty⟩ := hqq hqver.symm
  have hgq : g = ⟨q.block, q.off, none⟩ := hgq.resolve_left (by omega)
  subst hgq
  obtain ⟨t1, t2, t3⟩ := hr.shp c q _ hq hqty
  simp only at t3
  rw [t2] at c1
  rw [s2]
  have hcell : ∀ j x, s[j]? = some x → w.cell? ⟨q.block, j, none⟩ = some (.int .u8 x.toNat) := by
    intro j x hx
    have hj : j < len := by
      rcases Nat.lt_or_ge j s.length with h1 | h1
      · omega
      · rw [List.getElem?_eq_none h1] at hx; cases hx
    have h1 := hsb j x hx
    rw [List.getElem?_take, if_pos hj] at h1
    obtain ⟨y, hy, _, _, hyr⟩ := hqcells j (by omega)
    have h2 := hyr _ h1
    unfold VRel at h2
    subst h2
    rw [t2, Nat.zero_add] at hy
    exact hy
  have c1' : w.cell? ⟨p.block, 1, none⟩ = some (.slice (some ⟨q.block, 0, none⟩) s.length cap) := by
    rw [hsl]; simpa using c1
  refine (Any.bstring L X p.block q.block cap nn s w (by intro e; rw [e] at hsl; simp at hsl; omega) c1' (by omega) t1 (by omega) (by omega) hcell).mono ?_
  rintro e w' ⟨rfl, rfl⟩
  -- the cells of the buffer are ours
  have own : ∀ a : Addr, a.block = q.block → (w.cell? a).isSome = true → OwnB ρ H c a := by
    intro a hab hsome
    obtain ⟨z, hz⟩ := Option.isSome_iff_exists.1 hsome
    have hsp : a.spot = none ∧ a.off < nn := by
      unfold World.cell? at hz
      unfold World.shape? at t1
      rw [hab] at hz
      cases hh : w.heap[q.block]? with
      | none => rw [hh] at t1; cases t1
      | some o =>
        cases o with
        | cells cc e f =>
          rw [hh] at hz t1
          simp only [Option.some.injEq, Prod.mk.injEq] at t1
          simp only at hz
          split at hz
          · cases hz
          · rename_i hspot
            refine ⟨by simpa using hspot, ?_⟩
            rcases Nat.lt_or_ge a.off cc.size with h1 | h1
            · omega
            · rw [Array.getElem?_eq_none h1] at hz; cases hz
        | _ => rw [hh] at t1; cases t1
    refine ⟨cs, _, q, a.off, hgc, hq, by omega, ?_⟩
    rw [t2, Nat.zero_add]
    obtain ⟨bl, of, sp⟩ := a
    simp only at hab hsp ⊢
    rw [hab, hsp.1]
  obtain ⟨k1, k2⟩ := hr.pass (Kept.drew w)
  obtain ⟨M1, k3, k4⟩ := k1.freeze1 c
  have e14 := k2.trans k4
  have noOwn : ∀ a : Addr, a.block = q.block → ¬ Own ρ (freezeRow H c) a := by
    rintro a hab ⟨b2, ho⟩
    have h1 := OwnB.isSome k3 ho
    have h2 := own a hab h1
    obtain ⟨cs2, ver2, p2, j2, hg2, hp2, hj2, rfl⟩ := ho
    rw [freezeRow_get] at hg2
    split at hg2
    · rename_i e
      rw [hgc] at hg2
      simp at hg2
    · rename_i e
      exact e (hr.sep _ _ _ ⟨cs2, ver2, p2, j2, hg2, hp2, hj2, rfl⟩ h2)
  have noObj : ¬ OwnObj ρ (freezeRow H c) q.block := by
    rintro ⟨b2, ho⟩
    have h1 := (ObjB.lt k3 ho).2 ⟨q.block, 0, none⟩ rfl
    obtain ⟨y, hy, _⟩ := hqcells 0 (by omega)
    rw [t2] at hy
    have h1 : w.cell? ⟨q.block, 0, none⟩ = none := h1
    rw [h1] at hy
    cases hy
  refine ⟨_, M1, ρ, rfl, k3.freezeW _ _ noOwn noObj, ?_, ⟨⟨?_, ?_, ?_, ?_, fun rr hrr hao _ => ?_, fun a hl _ => ?_, fun a hl hno => ?_, fun rr hrr => ?_⟩, e14.mem, e14.memnew, e14.own, e14.obj⟩, fun j _ q hq => ⟨q, hq, q.ext_refl⟩⟩
  · unfold VRel; exact ⟨_, rfl, rfl⟩
  · unfold World.freeze; split <;> rfl
  · unfold World.freeze; split <;> rfl
  · unfold World.freeze; split <;> rfl
  · rw [size_freeze]; exact Nat.le_refl _
  · have hne : rr ≠ q.block := by
      intro e
      obtain ⟨y, hy, _⟩ := hqcells 0 (by omega)
      exact hao ⟨q.block, q.off + 0, none⟩ e.symm ⟨c, cs, _, q, 0, hgc, hq, by omega, rfl⟩
    rw [heap_freeze _ _ _ hne]; rfl
  · rw [cell_freeze]; rfl
  · have hne : a.block ≠ q.block := fun e => hno ⟨c, own a e hl⟩
    rw [frozen_freeze _ _ _ hne]; rfl
  · rw [shape_freeze]; rfl
end
end Go.Ev
