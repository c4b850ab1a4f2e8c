/- A part of the proof of ReportBack (the second form: what is handed in is of bulk at most 1048576): no statement of the seat's stands here. -/
import Derived.Test.YtoppmjanignfdaaDoorEvK
import Derived.Test.YtoppmjanignfdaaDoorEvJ
import Derived.Test.YtoppmjanignfdaaDoorRh
set_option linter.unusedSectionVars false
set_option linter.unusedSimpArgs false
set_option linter.unusedVariables false
set_option linter.all false
/- Hooks that turn nothing: their arguments may lie in a heap that stays as it is. -/
set_option linter.unusedVariables false
namespace Go.Ev
open Go Go.RowKit
section
variable {X : Ctx}
theorem Good.pure (h : Good X) {k n : Nat} {f : FuncId} {args pargs : List V} {l : List Nat} {H H' : Heap} {r : V} (hr : resolve H k (.tuple args) = (.tuple pargs, l)) (hp : refsL pargs = [])
    (he : evCall X n f pargs [] = some (r, H')) (hf : r.flat = true) (B : Mem) : CallOK X.P B f args H r H := by
  intro w M ρ cargs hH ha
  obtain ⟨M1, h1, e1⟩ := hH.freezeAll l
  have hs := shut_of_freeze h1
  have hv : VRel M ρ (.tuple args) (.tuple cargs) := by unfold VRel; exact ⟨cargs, rfl, ha⟩
  have hv1 : VRel M1 ρ (.tuple args) (.tuple cargs) := VRel.mono e1.mem (Rho.le_refl ρ) _ _ hv
  have hv2 := resolve_rel k _ _ l _ hr hs hv1
  unfold VRel at hv2
  obtain ⟨xs, hx, hl⟩ := hv2
  cases hx
  have hl1 : LRel M1 noRho pargs cargs.toList := by
    have := LRel.ren (ρ' := noRho) (m := fun _ => none) (fun b b' hb => by cases hb) pargs _ hl
    rwa [renL_id _ _ hp] at this
  have hl2 : LRel (cellsOfW w) noRho pargs cargs.toList := LRel.mono (fun a x hx => h1.mem a x hx) (Rho.le_refl _) _ _ hl1
  refine (h.run he w hl2).mono fun e w' hw => ?_
  obtain ⟨c, M', ρ', rfl, hv', hb, _⟩ := hw
  obtain ⟨g1, g2⟩ := hH.pass (Kept.of_below hb)
  exact ⟨c, M, ρ, rfl, g1, VRel.flat_any _ _ hf hv', g2, fun j _ p hp => ⟨p, hp, p.ext_refl⟩⟩
/-- The pure form of a call's arguments. -/
def pureArgs (args : List V) (H : Heap) : Option (List V) := match resolve H 6 (.tuple args) with
  | (.tuple pargs, _) => if (refsL pargs).isEmpty then some pargs else none
  | _ => none
def hookF (Fp : List V → Option V) (args : List V) (H : Heap) : Option (V × Heap) := match pureArgs args H with
  | some pargs => match Fp pargs with
    | some r => if r.flat then some (r, H) else none
    | none => none
  | none => none
def Ctx.hookP (X : Ctx) (f : FuncId) (Fp : List V → Option V) : Ctx :=
  Ctx.mk X.P X.glob (fun g => if g = f then some (hookF Fp) else X.spec g) X.ext (fun g => if g = f then true else X.mutArgs g) X.keepRes X.keepSlots
theorem Good.hookP (h : Good X) {f : FuncId} {Fp : List V → Option V} (hen : Enters X.P f) (hF : ∀ args r, Fp args = some r → ∃ n H', evCall X n f args [] = some (r, H')) : Good (X.hookP f Fp) := by
  refine ⟨h.mixed, h.names, fun W => ⟨(h.ctx W).glob, (h.ctx W).ext⟩, fun W g G hG args H r H' hr => ?_⟩
  have hG' : (if g = f then some (hookF Fp) else X.spec g) = some G := hG
  split at hG'
  · rename_i e
    subst e
    cases hG'
    refine ⟨hen, ?_⟩
    unfold hookF at hr
    split at hr
    · rename_i pargs hpa
      split at hr
      · rename_i r' hFr
        split at hr
        · rename_i hfl
          cases hr
          unfold pureArgs at hpa
          split at hpa
          · rename_i pargs' l hres
            split at hpa
            · rename_i hrefs
              cases hpa
              obtain ⟨n, H1, he⟩ := hF _ _ hFr
              exact h.pure hres (by simpa using hrefs) he hfl _
            · cases hpa
          · cases hpa
        · cases hr
      · cases hr
    · cases hr
  · exact h.hooks W g G hG' args H r H' hr
end
end Go.Ev
set_option linter.unusedVariables false
set_option linter.unusedSimpArgs false
set_option linter.unusedSectionVars false
set_option maxRecDepth 100000
set_option maxHeartbeats 4000000
namespace Go.Ev
open Go Go.Proofs
def F12p (args : List V) : Option V := match args with
  | [v] => (repOf v).map fun r => .bool (mayB r)
  | _ => none
noncomputable def X7 : Ctx := X6.hookP 12 F12p
theorem enters12 : Enters Tryd.prog 12 := ⟨_, Tryd.func12, by kernel_rfl, by kernel_rfl⟩
theorem X7_good : Good X7 := X6_good.hookP enters12 fun args r h => by
  unfold F12p at h
  split at h
  · rename_i v
    obtain ⟨rep, h1, h2⟩ := Option.map_eq_some_iff.1 h
    subst h2
    exact ⟨_, _, ev12 0 v rep h1⟩
  · cases h
/-- Contexts with May as a hook. -/
class Mid (X : Ctx) : Prop extends Low X where
  h12 : X.spec 12 = some (hookF F12p)
  m12 : X.mutArgs 12 = true
instance : Mid X7 where
  P := rfl
  l := fun _ => rfl
  k := fun _ => rfl
  x := fun _ => rfl
  h17 := rfl
  h34 := rfl
  h47 := rfl
  h71 := rfl
  n := by
    intro f hf
    have h6 := Low.n (X := X6) f hf
    have : f ≠ 12 := by intro e; rw [e] at hf; revert hf; decide
    show (if f = 12 then some (hookF F12p) else X6.spec f) = none
    rw [if_neg this]; exact h6
  m := by
    intro f hf
    show (if f = 12 then true else X6.mutArgs f) = false
    rw [if_neg hf]; rfl
  h12 := rfl
  m12 := rfl
theorem Mid.hook {X : Ctx} (h : Mid X) {f : FuncId} (F) (hf : f ∉ [17, 34, 47, 71, 14, 15, 16, 18, 26, 28, 29, 31, 32, 33, 38, 43, 45, 53, 59, 72, 12]) : Mid (X.hook f F) := by
  have h1 : f ∉ [17, 34, 47, 71, 14, 15, 16, 18, 26, 28, 29, 31, 32, 33, 38, 43, 45, 53, 59, 72] := fun e => hf (List.mem_append_left [12] e)
  have h2 : 12 ≠ f := fun e => hf (e ▸ by decide)
  exact { toLow := Low.hook h.toLow F h1, h12 := by rw [hook_s, if_neg h2]; exact h.h12, m12 := h.m12 }
theorem repOf_flat {v : V} {r : Rep} (h : repOf v = some r) : v.msls = [] ∧ v.refs = [] := by
  unfold repOf at h
  split at h
  · rename_i k a fa fe wit items short cells
    split at h
    · rename_i l c hl hc
      split at h
      · rename_i hw
        simp only [witOk, Bool.and_eq_true, List.isEmpty_iff] at hw
        obtain ⟨⟨w1, w2⟩, w3⟩ := hw
        obtain ⟨s1, s2, s3, s4⟩ := (itemsOf_some hl).1
        obtain ⟨d1, d2, d3, d4⟩ := (cellsOfV_some hc).1
        simp [V.msls, mslsL, V.refs, refsL, w2, w3, s2, s3, d2, d3]
      · cases h
    · cases h
  · cases h
theorem hookF_rep {v : V} {r : Rep} (h : repOf v = some r) : hookF F12p [v] [] = some (.bool (mayB r), []) := by
  obtain ⟨h1, h2⟩ := repOf_flat h
  have e : pureArgs [v] [] = some [v] := by
    have hm : (V.tuple [v]).msls = [] := by simp [V.msls, mslsL, h1]
    unfold pureArgs
    rw [resolve_go, hm]
    simp [resolveK, refsL, h2]
  unfold hookF
  rw [e]
  simp [F12p, h, V.flat]
def bUmp : List UInt8 := [117, 109, 112, 105, 114, 101, 32, 49]
def bItems : List UInt8 := [105, 116, 101, 109, 115, 32]
def bEnd : List UInt8 := [101, 110, 100]
def bCell : List UInt8 := [99, 101, 108, 108]
def itemL (i : Itm) : List UInt8 := itemS i.d i.p i.bytes
def cellL (c : Cel) : List UInt8 := Lib.join [bCell, hexS c.p, decS c.s, decS c.e] [32]
def headL (r : Rep) : List (List UInt8) := [bUmp, bItems ++ decS r.items, toldS r.k r.a r.fa r.fe]
def linesOf (r : Rep) : List (List UInt8) := headL r ++ r.short.map itemL ++ r.cells.map cellL
def textOf (r : Rep) : List UInt8 := Lib.join (linesOf r ++ [bEnd, []]) [10]
def putV (r : Rep) : V := if mayB r = true then (if 1048576 < (textOf r).length then .tuple [.str [], .int .i64 4] else .tuple [.str (textOf r), .int .i64 0]) else .tuple [.str [], .int .i64 1]
theorem refsL_strs : ∀ l : List (List UInt8), refsL (strsV l) = []
  | [] => by simp [strsV, refsL]
  | x :: r => by
    have := refsL_strs r
    simp only [strsV] at this
    simp [strsV, refsL, V.refs, this]
theorem mslsL_strs : ∀ l : List (List UInt8), mslsL (strsV l) = []
  | [] => by simp [strsV, mslsL]
  | x :: r => by
    have := mslsL_strs r
    simp only [strsV] at this
    simp [strsV, mslsL, V.msls, this]
theorem renL_strs (m : Nat → Option Nat) (l : List (List UInt8)) : renL m (strsV l) = strsV l := renL_id m _ (refsL_strs l)
theorem strsV_len (l : List (List UInt8)) : (strsV l).length = l.length := by simp [strsV]
theorem strsV_noScalar (l : List (List UInt8)) : (∃ x, x ∈ strsV l ∧ x.scalar = false) = False := by simp [strsV, V.scalar]
theorem take_strs (l : List (List UInt8)) : (strsV l).take l.length = strsV l := List.take_of_length_le (by simp [strsV])
noncomputable def B8 : Code := Tryd.f8.body.getD .skip
noncomputable def L8a : Code := cfst (cfst (csnd (cfst (csnd (csnd (csnd B8))))))
noncomputable def L8b : Code := cfst (cfst (csnd (cfst (csnd (csnd (csnd (csnd B8)))))))
noncomputable def R8a : Code := .seq (.seq (cfst (cfst (csnd (csnd (csnd (csnd B8)))))) (.block 2 (.loop L8b))) (csnd (csnd (csnd (csnd (csnd B8)))))
noncomputable def R8b : Code := csnd (csnd (csnd (csnd (csnd B8))))
theorem shape8 : Tryd.f8.body = some (.seq (cfst B8) (.seq (cfst (csnd B8)) (.seq (cfst (csnd (csnd B8))) (.seq (.seq (cfst (cfst (csnd (csnd (csnd B8))))) (.block 0 (.loop L8a))) R8a)))) := by kernel_rfl
theorem R8a_eq : R8a = csnd (csnd (csnd (csnd B8))) := by kernel_rfl
section
variable {X : Ctx} [h : Mid X]
theorem clears8a : clears (X.keepSlots 8) L8a = [33, 32, 31, 30, 29, 28, 6, 27, 26, 25] := by rw [Prg.l]; kernel_rfl
theorem clears8b : clears (X.keepSlots 8) L8b = [55, 54, 53, 52, 51, 50, 49, 48, 47, 46, 45, 44, 43, 42, 41, 8, 40, 39, 38] := by rw [Prg.l]; kernel_rfl
end
end Go.Ev
