/- A part of the proof of BenchRefuses: no statement of the seat's stands here. -/
import Derived.Shelf.SlIter.Nil
import Derived.Shelf.SortM.Plain
import Derived.Shelf.SortM.SortNone
import Derived.Test.YtbcackicpjobmaaGreatDoorZa
set_option linter.unusedSectionVars false
set_option linter.unusedSimpArgs false
set_option linter.unusedVariables false
set_option linter.all false
/- slices.Sorted(maps.Keys(m)), the keys texts, as a hook. -/
set_option linter.unusedVariables false
namespace Go.Ev
open Go Go.Shelf Go.Proofs Go.RowKit Go.Maps Go.Sort

theorem lessBytes_lt : ∀ a b : List UInt8, lessBytes a b = true ↔ a < b
  | _, [] => by unfold lessBytes; simp
  | [], _ :: _ => by unfold lessBytes; simp
  | a :: x, b :: y => by
    unfold lessBytes
    rw [List.cons_lt_cons_iff, ← lessBytes_lt x y]
    simp only [Bool.or_eq_true, Nat.blt_eq, Bool.and_eq_true, beq_iff_eq]
    rw [UInt8.lt_iff_toNat_lt, UInt8.toNat_inj]
/-- A text, put where it belongs; none: it is there. -/
def insStr (x : List UInt8) : List (List UInt8) → Option (List (List UInt8))
  | [] => some [x]
  | y :: r => if lessBytes x y then some (x :: y :: r) else if lessBytes y x then (insStr x r).map (y :: ·) else none
def sortStr : List (List UInt8) → Option (List (List UInt8))
  | [] => some []
  | x :: r => (sortStr r).bind (insStr x)
theorem insStr_spec (x : List UInt8) : ∀ {l s : List (List UInt8)}, insStr x l = some s → l.Pairwise (· < ·) → s.Perm (x :: l) ∧ s.Pairwise (· < ·)
  | [], s, h, _ => by cases h; exact ⟨.refl _, by simp⟩
  | y :: r, s, h, hp => by
    obtain ⟨h1, h2⟩ := List.pairwise_cons.1 hp
    unfold insStr at h
    split at h
    · rename_i hxy
      cases h
      have hxy := (lessBytes_lt x y).1 hxy
      refine ⟨.refl _, List.pairwise_cons.2 ⟨fun z hz => ?_, hp⟩⟩
      rcases List.mem_cons.1 hz with rfl | hz
      · exact hxy
      · exact List.lt_trans hxy (h1 z hz)
    · split at h
      · rename_i hyx
        have hyx := (lessBytes_lt y x).1 hyx
        obtain ⟨t, ht, rfl⟩ := Option.map_eq_some_iff.1 h
        obtain ⟨g1, g2⟩ := insStr_spec x ht h2
        refine ⟨(List.Perm.cons y g1).trans (List.Perm.swap x y r), List.pairwise_cons.2 ⟨fun z hz => ?_, g2⟩⟩
        rcases List.mem_cons.1 (g1.mem_iff.1 hz) with rfl | hz
        · exact hyx
        · exact h1 z hz
      · cases h
theorem sortStr_spec : ∀ {l s : List (List UInt8)}, sortStr l = some s → s.Perm l ∧ s.Pairwise (· < ·)
  | [], s, h => by cases h; exact ⟨.refl _, by simp⟩
  | x :: r, s, h => by
    obtain ⟨t, ht, h⟩ := Option.bind_eq_some_iff.1 h
    obtain ⟨g1, g2⟩ := sortStr_spec ht
    obtain ⟨g3, g4⟩ := insStr_spec x h g2
    exact ⟨g3.trans (List.Perm.cons x g1), g4⟩
theorem sortStr_merge {l s : List (List UInt8)} (h : sortStr l = some s) {l' : List (List UInt8)} (hp : l'.Perm l) : l'.mergeSort leB = s := by
  obtain ⟨h1, h2⟩ := sortStr_spec h
  have tr : ∀ a b c : List UInt8, leB a b = true → leB b c = true → leB a c = true := fun a b c h1 h2 => by simp only [leB, decide_eq_true_eq] at *; exact List.le_trans h1 h2
  have to : ∀ a b : List UInt8, (leB a b || leB b a) = true := fun a b => by simp only [leB, Bool.or_eq_true, decide_eq_true_eq]; exact List.le_total a b
  refine List.Perm.eq_of_pairwise (le := fun a b => leB a b = true) (fun a b _ _ h1 h2 => ?_) (List.pairwise_mergeSort tr to l') (h2.imp fun hab => ?_) (((List.mergeSort_perm l' leB).trans hp).trans h1.symm)
  · simp only [leB, decide_eq_true_eq] at h1 h2
    exact List.le_antisymm h1 h2
  · simp only [leB, decide_eq_true_eq]
    exact List.le_of_lt hab

def keysStr : List (V × V) → Option (List (List UInt8))
  | [] => some []
  | (.str s, _) :: r => if s.length ≤ 1000000000 then (keysStr r).map (s :: ·) else none
  | _ => none
def spSorted (G : FuncId) (l : List V) (H : Heap) : Option (V × Heap) := match l with
  | [.func (.func g) [] [.ptr p 0 0]] => if g = G then match rowOf H p 0 with
    | some (.map m :: _, _) => match mapOf H m with
      | some es => match keysStr es with
        | some ks => if ks.length ≤ 1000000 then match sortStr ks with
            | some [] => some (.nilsl, H)
            | some (x :: r) => some (.sl 1 (r.length + 1) (V.str x :: r.map V.str), H)
            | none => none
          else none
        | none => none
      | none => none
    | _ => none
    else none
  | _ => none

section
variable {B : Mem} {w : World} {M : Mem} {ρ : Rho} {H : Heap}
/-- What a block holds is known. -/
theorem HRel.learn (h : HRel B w M ρ H) (g : Nat) (hg : ∀ a : Addr, a.block = g → ¬ Own ρ H a) : HRel B w (fun a => if a.block = g then w.cell? a else M a) ρ H ∧ M.le (fun a => if a.block = g then w.cell? a else M a) := by
  have hle : M.le (fun a => if a.block = g then w.cell? a else M a) := fun a x hx => by
    try simp only
    split
    · exact h.mem a x hx
    · exact hx
  refine ⟨⟨Mem.le_trans h.base hle, fun a x hx => ?_, h.dom, fun b x p hb hp => ?_, h.sep, h.sepo, h.shp, h.off0⟩, hle⟩
  · try simp only at hx
    split at hx
    · exact hx
    · exact h.mem a x hx
  · refine (h.rel b x p hb hp).mono hle (Rho.le_refl _) (fun j hj => ?_) (fun _ => rfl)
    cases x with
    | row cs mu ver =>
      cases mu with
      | true =>
        refine .inl ⟨rfl, rfl, fun hm => ?_⟩
        simp only
        rw [if_neg (fun e => hg ⟨p.block, p.off + j, none⟩ e ⟨b, cs, ver, p, j, hb, hp, hj, rfl⟩)]
        exact hm
      | false => exact .inr trivial
    | map es => exact .inr trivial
    | iter s pos => exact .inr trivial
    | loop => exact .inr trivial
    | miter => exact .inr trivial

def keyBy : Value → List UInt8
  | .string b => b.data.toList
  | _ => []
theorem keys_at : ∀ {es : List (V × V)} {l : List MapEntry} {ks : List (List UInt8)}, EsRel M ρ es l → keysStr es = some ks → l.map (·.key) = ks.map encStr ∧ ∀ k ∈ ks, k.length ≤ 1000000000
  | [], l, ks, h, hk => by
    unfold EsRel at h
    subst h
    cases hk
    exact ⟨rfl, by simp⟩
  | (k, v) :: r, l, ks, h, hk => by
    unfold EsRel at h
    obtain ⟨e, es, rfl, h1, _, h3⟩ := h
    unfold keysStr at hk
    split at hk
    · rename_i he; cases he
    · rename_i s v' r' he
      cases he
      split at hk
      · rename_i hs
        obtain ⟨t, ht, rfl⟩ := Option.map_eq_some_iff.1 hk
        obtain ⟨g1, g2⟩ := keys_at h3 ht
        unfold VRel at h1
        obtain ⟨b, hb, hbs⟩ := h1
        refine ⟨?_, fun k hk => ?_⟩
        · simp only [List.map_cons, g1]
          rw [hb, ← hbs]
        · rcases List.mem_cons.1 hk with rfl | hk
          · exact hs
          · exact g2 k hk
      · cases hk
    · cases hk
theorem strs_crel (g : Nat) : ∀ (ss : List (List UInt8)) (i : Nat), (∀ j x, ss[j]? = some x → M ⟨g, i + j, none⟩ = some (encStr x)) → CRel M ρ g i (ss.map V.str)
  | [], i, _ => by simp only [List.map_nil]; unfold CRel; trivial
  | x :: r, i, h => by
    simp only [List.map_cons]
    unfold CRel
    refine ⟨⟨_, h 0 x rfl, ?_⟩, strs_crel g r (i + 1) fun j y hy => ?_⟩
    · unfold VRel; exact ⟨_, rfl, by simp⟩
    · have h1 := h (j + 1) y (by simpa using hy)
      rwa [show i + (j + 1) = i + 1 + j from by omega] at h1

theorem spSorted_ok {P : Program} {B : Mem} {r r' r'' : Ren} (Lk : SlLaysZ.n10 P r) (Ls : SlLaysZ.n6 P r') (Lt : SlLaysM.n6 P r'') (hS9 : r'.f 9 = r''.f 6) (hT : r.t 26 = r'.t 26) (hk : P.underlying (r.t 26) = some .string)
    (e9 : ∀ args w, (callFunc (r'.f 9) args).run P w = .ok (.enter (r'.f 9) args) w) (eg : ∀ args w, (callFunc (r.f 10) args).run P w = .ok (.enter (r.f 10) args) w)
    {args : List V} {H H' : Heap} {v : V} (h : spSorted (r.f 10) args H = some (v, H')) : CallOK P B (r'.f 6) args H v H' := by
  unfold spSorted at h
  split at h
  case h_2 => cases h
  rename_i g p
  split at h
  case isFalse => cases h
  rename_i hgg
  subst hgg
  split at h
  case h_2 => cases h
  rename_i m cs mu hro
  split at h
  case h_2 => cases h
  rename_i es hm
  split at h
  case h_2 => cases h
  rename_i ks hks
  split at h
  case isFalse => cases h
  rename_i hlen
  intro w M ρ cargs hr ha
  obtain ⟨cf, rfl, hv⟩ := args1 ha
  unfold VRel at hv
  obtain ⟨f1, c1, rfl, hf1, hc1⟩ := hv
  unfold LRel at hf1
  have hf1 : f1 = #[] := by rw [← Array.toList_inj, hf1]
  subst hf1
  obtain ⟨cp, rfl, hcp⟩ := args1 hc1
  obtain ⟨q, hq, hqv, hbr, hci⟩ := row_at hr hro
  unfold VRel at hcp
  obtain ⟨q', ad, hq', _, rfl, had⟩ := hcp
  rw [hq] at hq'; cases hq'
  have had := had hqv.symm
  have hoff := hr.off0 p q hq hqv
  subst had
  rw [hoff] at hci ⊢
  obtain ⟨x0, hx0, hxr⟩ := hci 0 _ rfl
  unfold VRel at hxr
  obtain ⟨pm, hpm, hfm, rfl⟩ := hxr
  obtain ⟨pm', ces, clock, hpm', _, hbm, hes, hbo⟩ := map_at hr hm
  rw [hpm] at hpm'; cases hpm'
  obtain ⟨hkeys, hkl⟩ := keys_at hes hks
  have hcl : ces.size = ks.length := by
    have := congrArg List.length hkeys
    simpa using this
  obtain ⟨ss0, hso⟩ : ∃ ss0, sortStr ks = some ss0 := by
    cases hso : sortStr ks with
    | none => rw [hso] at h; cases h
    | some s => exact ⟨s, rfl⟩
  obtain ⟨hperm0, hpw⟩ := sortStr_spec hso
  have hnd : ks.Nodup := hperm0.nodup_iff.1 (hpw.imp fun hab e => by subst e; exact List.lt_irrefl _ hab)
  -- the map, as the kit reads it
  have hml : 1000000000 ≤ maxLen := by decide
  have hFit : WideElems.Fit (H := Unit) P (r.t 26) (fun _ => some (.nil, [])) ces clock := by
    refine ⟨by omega, ⟨fun x hx => ?_, ?_, ?_⟩, fun x hx => ?_⟩
    · obtain ⟨i, hi⟩ := List.getElem?_of_mem hx
      have h1 : ces[i]? = some x := by simpa using hi
      rw [hbo.2 i x h1, hbo.1]
      rcases Nat.lt_or_ge i ces.size with h2 | h2
      · exact h2
      · rw [Array.getElem?_eq_none h2] at h1; cases h1
    · have : ces.toList.map (·.born) = List.range ces.size := by
        apply List.ext_getElem?
        intro i
        rw [List.getElem?_map, Array.getElem?_toList]
        rcases Nat.lt_or_ge i ces.size with h2 | h2
        · rw [List.getElem?_range h2, Array.getElem?_eq_getElem h2]
          simp [hbo.2 i _ (Array.getElem?_eq_getElem h2)]
        · rw [Array.getElem?_eq_none h2, List.getElem?_eq_none (by simpa using h2)]; rfl
      rw [this]; exact List.nodup_range
    · rw [hkeys]
      exact List.pairwise_map.2 (hnd.imp fun hne e => hne (encStr_inj e))
    · have hx' : x.key ∈ ces.toList.map (·.key) := List.mem_map.2 ⟨x, hx, rfl⟩
      rw [hkeys] at hx'
      obtain ⟨k, hkm, hke⟩ := List.mem_map.1 hx'
      have hkk := hkl k hkm
      refine ⟨(.string k, .nil), ?_⟩
      unfold WideElems.rd
      rw [← hke, WideMaps.keyOf_string_mk hk (s := ⟨k.toArray⟩) (show k.length ≤ maxLen by omega)]
      rfl
  have hown : w.ownsMap P (r.t 26) (fun _ => some ((.nil : DataW Unit), [])) pm.block ces.size (.map ((ces.toList.map (WideElems.rg P (r.t 26) (fun _ => some (.nil, [])))).foldr DataW.insert [])) := ⟨ces, clock, hbm, hFit, Nat.le_refl _, rfl⟩
  have hsk : (strKeys (.map ((ces.toList.map (WideElems.rg (H := Unit) P (r.t 26) (fun _ => some (.nil, [])))).foldr DataW.insert []))).Perm ks := by
    have h1 : (strKeys (.map ((ces.toList.map (WideElems.rg (H := Unit) P (r.t 26) (fun _ => some (.nil, [])))).foldr DataW.insert []))).Perm ((ces.toList.map (WideElems.rg (H := Unit) P (r.t 26) (fun _ => some (.nil, [])))).map fun p => strOf p.1) :=
      (WideShapes.sorted_perm _).map _
    refine h1.trans (.of_eq ?_)
    rw [List.map_map]
    have : ∀ x ∈ ces.toList, ((fun p : Lit × DataW Unit => strOf p.1) ∘ WideElems.rg (H := Unit) P (r.t 26) (fun _ => some (.nil, []))) x = keyBy x.key := by
      intro x hx
      have hx' : x.key ∈ ces.toList.map (·.key) := List.mem_map.2 ⟨x, hx, rfl⟩
      rw [hkeys] at hx'
      obtain ⟨k, hkm, hke⟩ := List.mem_map.1 hx'
      have hkk := hkl k hkm
      have hrd : WideElems.rd (H := Unit) P (r.t 26) (fun _ => some (.nil, [])) x = some (.string k, .nil) := by
        unfold WideElems.rd
        rw [← hke, WideMaps.keyOf_string_mk hk (s := ⟨k.toArray⟩) (show k.length ≤ maxLen by omega)]
        rfl
      simp only [Function.comp, WideElems.rg_of hrd, ← hke]
      simp [strOf, encStr, keyBy]
    rw [List.map_congr_left this]
    have e2 : (fun x : MapEntry => keyBy x.key) = keyBy ∘ (·.key) := rfl
    rw [e2, ← List.map_map, hkeys, List.map_map]
    have : ∀ k : List UInt8, (keyBy ∘ encStr) k = k := fun k => by simp [encStr, keyBy]
    rw [List.map_congr_left (g := id) fun k _ => this k, List.map_id]
  have hsz : Maps.size (.map ((ces.toList.map (WideElems.rg (H := Unit) P (r.t 26) (fun _ => some (.nil, [])))).foldr DataW.insert [])) ≤ 1000000 := by
    rw [Maps.size_eq, (WideShapes.sorted_perm _).length_eq]
    simp
    omega
  have hseq := AnyZ.keys_gives Lk Fence.wide 2 trivial rfl (by omega) q.block pm.block ces.size _ w (World.block_lt_of_cell? _ _ hx0) hx0 hown
  have hsort : AnyZ.SortsIn P r' Fence.wide 4 :=
    ⟨fun blk off cap ss W hH hblk hsz => by rw [hS9]; exact callsIn_wide.2 (AnyM.slices_Sort_string Lt blk off cap ss W hH hblk hsz),
     fun p cap W => by rw [hS9]; exact callsIn_wide.2 (AnyM.slices_Sort_string_none Lt p cap W)⟩
  have cS := AnyZ.sorted_in Ls Fence.wide 5 trivial trivial trivial trivial rfl (by omega) hsort e9 (r.f 10) #[.pointer (some ⟨q.block, 0, none⟩)] trivial eg _ _ (by omega) (by omega) w hseq
  refine Calls.mono ((callsIn_wide (n := 5)).1 cS) fun e w' he => ?_
  obtain ⟨cv, ss, rfl, hS, hrow, hnil, hb⟩ := he
  have hss : ss.mergeSort leB = ss0 := sortStr_merge hso (hS.trans hsk)
  have hslen : ss.length = ss0.length := by
    have := (List.mergeSort_perm ss leB).length_eq
    rw [hss] at this; omega
  obtain ⟨k1, k2⟩ := hr.pass (Kept.of_below hb)
  rw [hso] at h
  cases ss0 with
  | nil =>
    simp only [Option.some.injEq, Prod.mk.injEq] at h
    obtain ⟨rfl, rfl⟩ := h
    have : ss = [] := List.length_eq_zero_iff.1 (by simpa using hslen)
    subst this
    obtain rfl := hnil.2 rfl
    exact ⟨_, M, ρ, rfl, k1, by unfold VRel; rfl, k2, fun j _ q hq => ⟨q, hq, q.ext_refl⟩⟩
  | cons x rest =>
    simp only [Option.some.injEq, Prod.mk.injEq] at h
    obtain ⟨rfl, rfl⟩ := h
    obtain ⟨_, hrow⟩ := hrow
    rcases hrow with ⟨_, h0⟩ | ⟨g, cap, cur, rfl, hgb, hgh, hnc, hcm, hcs, htake⟩
    · rw [hslen] at h0; simp at h0
    have hnew : ∀ a : Addr, a.block = g → ¬ Own ρ H a := by
      rintro a hab ⟨b2, ho⟩
      have := (OwnB.lt hr ho).1
      omega
    obtain ⟨l1, l2⟩ := k1.learn g hnew
    refine ⟨_, _, ρ, rfl, l1, ?_, ⟨k2.kept, Mem.le_trans k2.mem l2, fun a z hz => ?_, k2.own, k2.obj⟩, fun j _ q hq => ⟨q, hq, q.ext_refl⟩⟩
    · have hl1 : rest.length + 1 = ss.length := by rw [hslen]; rfl
      unfold VRel
      refine ⟨⟨g, 0, none⟩, cap, by rw [hl1], by omega, by simp, Nat.le_refl _, .inr ⟨rfl, ?_⟩⟩
      refine strs_crel g (x :: rest) 0 fun j y hy => ?_
      simp only [if_true, Nat.zero_add]
      have h1 : (cur.toList.take (ss.length * 1))[j]? = some (encStr y) := by
        rw [htake]
        show ((ss.mergeSort leB).map encStr)[j]? = _
        rw [hss, List.getElem?_map, hy]; rfl
      rw [List.getElem?_take] at h1
      split at h1
      · unfold World.cell?
        simp only [hgh]
        rw [Array.getElem?_toList] at h1
        simpa using h1
      · cases h1
    · try simp only at hz
      split at hz
      · rename_i hab
        exact .inr (.inr (by omega))
      · exact k2.memnew a z hz
end
end Go.Ev
