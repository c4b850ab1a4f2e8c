/- A part of the proof of BenchRefuses: no statement of the seat's stands here. -/
import Derived.Test.YtbcackicpjobmaaGreatDoorZg
set_option linter.unusedSectionVars false
set_option linter.unusedSimpArgs false
set_option linter.unusedVariables false
set_option linter.all false
/- Calls whose answers stand in a table. -/
set_option linter.unusedVariables false
namespace Go.Ev
open Go
mutual
def sameV : V → V → Bool
  | .bool a, .bool b => a == b
  | .int i a, .int j b => decide (i = j) && decide (a = b)
  | .str a, .str b => a == b
  | .nilsl, .nilsl => true
  | .agg a, .agg b => sameVs a b
  | .tuple a, .tuple b => sameVs a b
  | .sl s n a, .sl s' n' b => decide (s = s') && decide (n = n') && sameVs a b
  | _, _ => false
def sameVs : List V → List V → Bool
  | [], [] => true
  | a :: r, b :: s => sameV a b && sameVs r s
  | _, _ => false
end
mutual
theorem sameV_ok : ∀ {a b : V}, sameV a b = true → a = b
  | .bool a, .bool b, h => by simp only [sameV, beq_iff_eq] at h; rw [h]
  | .int i a, .int j b, h => by simp only [sameV, Bool.and_eq_true, decide_eq_true_eq] at h; rw [h.1, h.2]
  | .str a, .str b, h => by simp only [sameV, beq_iff_eq] at h; rw [h]
  | .nilsl, .nilsl, h => rfl
  | .agg a, .agg b, h => by simp only [sameV] at h; rw [sameVs_ok h]
  | .tuple a, .tuple b, h => by simp only [sameV] at h; rw [sameVs_ok h]
  | .sl s n a, .sl s' n' b, h => by simp only [sameV, Bool.and_eq_true, decide_eq_true_eq] at h; rw [h.1.1, h.1.2, sameVs_ok h.2]
theorem sameVs_ok : ∀ {a b : List V}, sameVs a b = true → a = b
  | [], [], h => rfl
  | a :: r, b :: s, h => by simp only [sameVs, Bool.and_eq_true] at h; rw [sameV_ok h.1, sameVs_ok h.2]
end
abbrev Tab := List (List V × V)
def Tab.get (t : Tab) (as : List V) : Option V := match t with
  | [] => none
  | e :: r => match sameVs e.1 as with
    | true => some e.2
    | false => Tab.get r as
def tabF (t : Tab) (as : List V) (H : Heap) : Option (V × Heap) := match H with
  | [] => match t.get as with
    | some v => some (v, [])
    | none => none
  | _ => none
def TabOK (X : Ctx) (n : Nat) (f : FuncId) : Tab → Prop
  | [] => True
  | e :: r => callF X n f e.1 [] = some (e.2, []) ∧ TabOK X n f r
def ansIs (w : V) : Option (V × Heap) → Bool
  | some (v, []) => sameV v w
  | _ => false
noncomputable def checkTab (X : Ctx) (n : Nat) (f : FuncId) : Tab → Bool
  | [] => true
  | e :: r => ansIs e.2 (callF X n f e.1 []) && checkTab X n f r
theorem checkTab_ok {X n f} : ∀ {t : Tab}, checkTab X n f t = true → TabOK X n f t
  | [], _ => trivial
  | e :: r, h => by
    simp only [checkTab, Bool.and_eq_true] at h
    refine ⟨?_, checkTab_ok h.2⟩
    have h1 := h.1
    unfold ansIs at h1
    split at h1
    · rename_i e1; rw [e1, sameV_ok h1]
    · cases h1
theorem TabOK.append {X n f} : ∀ {t t' : Tab}, TabOK X n f t → TabOK X n f t' → TabOK X n f (t ++ t')
  | [], _, _, h => h
  | e :: r, t', h, h' => ⟨h.1, TabOK.append h.2 h'⟩
/- short words for values -/
def zz (n : Nat) : V := .int .i64 (.ofNat n)
def zn (n : Nat) : V := .int .i64 (.negSucc n)
def zk (k : IntKind) (n : Int) : V := .int k n
def tt : V := .bool true
def ff : V := .bool false
def se : V := .str []
def nl : V := .nilsl
theorem Tab.get_ok {X n f} : ∀ {t : Tab} {as v}, TabOK X n f t → t.get as = some v → callF X n f as [] = some (v, [])
  | [], as, v, _, h => by cases h
  | e :: r, as, v, hk, h => by
    unfold Tab.get at h
    split at h
    · rename_i hs
      cases h
      rw [← sameVs_ok hs]; exact hk.1
    · exact Tab.get_ok hk.2 h
theorem Good.tab {X : Ctx} (h : Good X) {f : FuncId} {n : Nat} {t : Tab} (hk : TabOK X n f t) (hne : f ≠ yieldId := by decide) : Good (X.hook f (memoF (tabF t))) := by
  refine h.hook (fun args H r H' hr => ⟨n, callF_ok ?_⟩) hne
  rw [memoF_eq] at hr
  unfold tabF at hr
  split at hr
  · split at hr
    · rename_i hv
      cases hr
      exact Tab.get_ok hk hv
    · cases hr
  · cases hr
end Go.Ev
namespace Go.Ev
open Go
/-- A table that was made in another context of the same program. -/
theorem Good.tab2 {X Y : Ctx} (h : Good X) (hy : Good Y) (hP : Y.P = X.P) {f : FuncId} {n : Nat} {t : Tab} (hk : TabOK Y n f t) (hne : f ≠ yieldId := by decide) : Good (X.hook f (memoF (tabF t))) := by
  refine ⟨h.mixed, h.names, fun W => ⟨(h.ctx W).glob, (h.ctx W).ext⟩, fun W g G hG args H r H' hr => ?_⟩
  have hG' : (if g = f then some (memoF (tabF t)) else X.spec g) = some G := hG
  split at hG'
  · rename_i e
    subst e
    cases hG'
    rw [memoF_eq] at hr
    unfold tabF at hr
    split at hr
    · split at hr
      · rename_i hv
        cases hr
        have := hy.calls (callF_ok (Tab.get_ok hk hv)) W hne
        rw [hP] at this
        exact this
      · cases hr
    · cases hr
  · exact h.hooks W g G hG' args H r H' hr
end Go.Ev
