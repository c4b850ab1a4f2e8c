/- A part of the proof of BenchRefuses: no statement of the seat's stands here. -/
import Derived.Test.YtbcackicpjobmaaGreatDoorZe
set_option linter.unusedSectionVars false
set_option linter.unusedSimpArgs false
set_option linter.unusedVariables false
set_option linter.all false
/- Registers in a tree; a walk that hands on what it has to what comes behind. -/
set_option linter.unusedVariables false
namespace Go.Ev
open Go
inductive RT where
  | nil
  | node (l : RT) (v : V) (r : RT)
def pathF : Nat → Nat → List Bool
  | 0, _ => []
  | _ + 1, 0 => []
  | f + 1, i + 1 => Nat.beq (i % 2) 1 :: pathF f (i / 2)
def pathOf (i : Nat) : List Bool := pathF i i
def unpath : List Bool → Nat
  | [] => 0
  | b :: p => 2 * unpath p + (if b then 2 else 1)
theorem unpath_pathF : ∀ (f i : Nat), i ≤ f → unpath (pathF f i) = i
  | 0, i, h => by
    have : i = 0 := by omega
    subst this; rfl
  | f + 1, 0, h => rfl
  | f + 1, i + 1, h => by
    simp only [pathF, unpath]
    rw [unpath_pathF f (i / 2) (by omega)]
    by_cases hb : i % 2 = 1
    · rw [hb]; simp; omega
    · have : i % 2 = 0 := by omega
      rw [this]; simp; omega
theorem pathOf_inj {i j : Nat} (h : pathOf i = pathOf j) : i = j := by
  have h1 := unpath_pathF i i (Nat.le_refl _)
  have h2 := unpath_pathF j j (Nat.le_refl _)
  unfold pathOf at h
  rw [← h1, h, h2]
noncomputable def RT.top (t : RT) : V := RT.rec (motive := fun _ => V) .dead (fun _ v _ _ _ => v) t
noncomputable def RT.kid (b : Bool) (t : RT) : RT := RT.rec (motive := fun _ => RT) .nil (fun l _ r _ _ => Bool.rec (motive := fun _ => RT) l r b) t
noncomputable def RT.get (p : List Bool) : RT → V := List.rec (motive := fun _ => RT → V) RT.top (fun b _ ih t => ih (RT.kid b t)) p
section
variable {α : Type}
noncomputable def RT.setK (p : List Bool) : RT → V → (RT → α) → α := List.rec (motive := fun _ => RT → V → (RT → α) → α)
  (fun t v k => RT.rec (motive := fun _ => α) (k (.node .nil v .nil)) (fun l _ r _ _ => k (.node l v r)) t)
  (fun b _ ih t v k => RT.rec (motive := fun _ => α)
    (Bool.rec (motive := fun _ => α) (ih .nil v fun l => k (.node l .dead .nil)) (ih .nil v fun r => k (.node .nil .dead r)) b)
    (fun l x r _ _ => Bool.rec (motive := fun _ => α) (ih l v fun l => k (.node l x r)) (ih r v fun r => k (.node l x r)) b) t) p
end
noncomputable def RT.set (p : List Bool) (t : RT) (v : V) : RT := RT.setK p t v id
theorem RT.setK_eq {α : Type} : ∀ (p : List Bool) (t : RT) (v : V) (k : RT → α), RT.setK p t v k = k (RT.set p t v)
  | [], .nil, v, k => rfl
  | [], .node .., v, k => rfl
  | true :: p, .nil, v, k => by
    show RT.setK p .nil v (fun r => k (.node .nil .dead r)) = k (RT.setK p .nil v (fun r => RT.node .nil .dead r))
    rw [RT.setK_eq p, RT.setK_eq p]
  | false :: p, .nil, v, k => by
    show RT.setK p .nil v (fun r => k (.node r .dead .nil)) = k (RT.setK p .nil v (fun r => RT.node r .dead .nil))
    rw [RT.setK_eq p, RT.setK_eq p]
  | true :: p, .node l x r, v, k => by
    show RT.setK p r v (fun r => k (.node l x r)) = k (RT.setK p r v (fun r => RT.node l x r))
    rw [RT.setK_eq p, RT.setK_eq p]
  | false :: p, .node l x r, v, k => by
    show RT.setK p l v (fun l => k (.node l x r)) = k (RT.setK p l v (fun l => RT.node l x r))
    rw [RT.setK_eq p, RT.setK_eq p]
theorem RT.get_nil : ∀ (p : List Bool), RT.get p .nil = .dead
  | [] => rfl
  | b :: p => by show RT.get p (RT.kid b .nil) = _; exact RT.get_nil p
theorem RT.set_cons_true (p : List Bool) (l x r v) : RT.set (true :: p) (.node l x r) v = .node l x (RT.set p r v) := by
  show RT.setK p r v (fun r => RT.node l x r) = _; rw [RT.setK_eq]
theorem RT.set_cons_false (p : List Bool) (l x r v) : RT.set (false :: p) (.node l x r) v = .node (RT.set p l v) x r := by
  show RT.setK p l v (fun l => RT.node l x r) = _; rw [RT.setK_eq]
theorem RT.set_nil_true (p : List Bool) (v) : RT.set (true :: p) .nil v = .node .nil .dead (RT.set p .nil v) := by
  show RT.setK p .nil v (fun r => RT.node .nil .dead r) = _; rw [RT.setK_eq]
theorem RT.set_nil_false (p : List Bool) (v) : RT.set (false :: p) .nil v = .node (RT.set p .nil v) .dead .nil := by
  show RT.setK p .nil v (fun l => RT.node l .dead .nil) = _; rw [RT.setK_eq]
theorem RT.get_set : ∀ (p q : List Bool) (t : RT) (v : V), RT.get q (RT.set p t v) = if q = p then v else RT.get q t
  | [], [], .nil, v => rfl
  | [], [], .node .., v => rfl
  | [], b :: q, .nil, v => by
    show RT.get q (RT.kid b (.node .nil v .nil)) = if (b :: q) = [] then v else RT.get q (RT.kid b .nil)
    cases b <;> simp [RT.kid]
  | [], b :: q, .node l x r, v => by
    show RT.get q (RT.kid b (.node l v r)) = if (b :: q) = [] then v else RT.get q (RT.kid b (.node l x r))
    cases b <;> simp [RT.kid]
  | true :: p, [], .nil, v => by rw [RT.set_nil_true]; rfl
  | false :: p, [], .nil, v => by rw [RT.set_nil_false]; rfl
  | true :: p, [], .node .., v => by rw [RT.set_cons_true]; rfl
  | false :: p, [], .node .., v => by rw [RT.set_cons_false]; rfl
  | true :: p, true :: q, .nil, v => by
    rw [RT.set_nil_true]
    show RT.get q (RT.set p .nil v) = if true :: q = true :: p then v else RT.get q .nil
    rw [RT.get_set p q]; simp
  | false :: p, false :: q, .nil, v => by
    rw [RT.set_nil_false]
    show RT.get q (RT.set p .nil v) = if false :: q = false :: p then v else RT.get q .nil
    rw [RT.get_set p q]; simp
  | true :: p, false :: q, .nil, v => by
    rw [RT.set_nil_true]
    show RT.get q .nil = if false :: q = true :: p then v else RT.get q .nil
    simp
  | false :: p, true :: q, .nil, v => by
    rw [RT.set_nil_false]
    show RT.get q .nil = if true :: q = false :: p then v else RT.get q .nil
    simp
  | true :: p, true :: q, .node l x r, v => by
    rw [RT.set_cons_true]
    show RT.get q (RT.set p r v) = if true :: q = true :: p then v else RT.get q r
    rw [RT.get_set p q]; simp
  | false :: p, false :: q, .node l x r, v => by
    rw [RT.set_cons_false]
    show RT.get q (RT.set p l v) = if false :: q = false :: p then v else RT.get q l
    rw [RT.get_set p q]; simp
  | true :: p, false :: q, .node l x r, v => by
    rw [RT.set_cons_true]
    show RT.get q l = if false :: q = true :: p then v else RT.get q l
    simp
  | false :: p, true :: q, .node l x r, v => by
    rw [RT.set_cons_false]
    show RT.get q r = if true :: q = false :: p then v else RT.get q r
    simp

/-- A tree that stands for registers. -/
structure RR (N : Nat) (t : RT) (tm : List V) : Prop where
  len : tm.length = N
  get : ∀ i, t.get (pathOf i) = (tm[i]?).getD .dead
theorem RR.set {N t tm} (h : RR N t tm) {d : Nat} (hd : d < N) (v : V) : RR N (t.set (pathOf d) v) (tm.set d v) := by
  refine ⟨by rw [List.length_set, h.len], fun i => ?_⟩
  rw [RT.get_set, List.getElem?_set]
  by_cases e : i = d
  · subst e
    simp [h.len, hd]
  · rw [if_neg (fun h => e (pathOf_inj h)), h.get, if_neg (fun h => e h.symm)]
/-- Values into registers, from one on. -/
noncomputable def ofArgs (as : List V) : Nat → RT → RT := List.rec (motive := fun _ => Nat → RT → RT) (fun _ t => t) (fun v _ ih i t => RT.setK (pathOf i) t v fun t => ih (Nat.succ i) t) as
theorem ofArgs_get : ∀ (as : List V) (i : Nat) (t : RT) (j : Nat), (ofArgs as i t).get (pathOf j) = if i ≤ j ∧ j < i + as.length then (as[j - i]?).getD .dead else t.get (pathOf j)
  | [], i, t, j => by
    rw [if_neg (by simp)]; rfl
  | v :: r, i, t, j => by
    show RT.get _ (RT.setK (pathOf i) t v fun t => ofArgs r (Nat.succ i) t) = _
    rw [RT.setK_eq, ofArgs_get r, RT.get_set]
    by_cases e : j = i
    · subst e
      rw [if_neg (by omega), if_pos rfl, if_pos (by simp)]
      simp
    · by_cases h : i + 1 ≤ j ∧ j < i + 1 + r.length
      · rw [if_pos h, if_pos (by simp; omega)]
        have : j - i = (j - (i + 1)) + 1 := by omega
        rw [this]; rfl
      · rw [if_neg h, if_neg (fun h => e (pathOf_inj h)), if_neg (by simp; omega)]
theorem RR.ofArgs {as : List V} {N : Nat} (h : as.length ≤ N) : RR N (ofArgs as 0 .nil) (as ++ List.replicate (N - as.length) .dead) := by
  refine ⟨by simp; omega, fun j => ?_⟩
  rw [ofArgs_get, RT.get_nil, List.getElem?_append]
  by_cases h' : j < as.length
  · rw [if_pos (by simpa using h'), if_pos h']; rfl
  · rw [if_neg (by simpa using h'), if_neg h', List.getElem?_replicate]
    split <;> rfl
theorem RR.ofFull (tm : List V) : RR tm.length (Go.Ev.ofArgs tm 0 .nil) tm := by
  have := RR.ofArgs (as := tm) (Nat.le_refl _)
  simpa using this
/-- The registers, in a row. -/
noncomputable def tmsOf (t : RT) (N : Nat) : List V := (List.range N).map fun i => t.get (pathOf i)
theorem RR.tms {N t tm} (h : RR N t tm) : tmsOf t N = tm := by
  apply List.ext_getElem?
  intro i
  unfold tmsOf
  rw [List.getElem?_map]
  by_cases hi : i < N
  · rw [List.getElem?_range hi]
    simp only [Option.map_some]
    rw [h.get, List.getElem?_eq_getElem (by rw [h.len]; exact hi)]
    rfl
  · rw [List.getElem?_eq_none (by simp; omega), List.getElem?_eq_none (by rw [h.len]; omega)]
    rfl

section
variable (X : Ctx)
noncomputable def opdF (t : RT) (x : Operand) : V := Operand.rec (motive := fun _ => V) (fun i => t.get (pathOf i)) ofValue X.glob (fun f => .func (.func f) [] []) x
end
end Go.Ev
/- Values without references; shallow forms; steps and runs of operations. -/
set_option linter.unusedVariables false
namespace Go.Ev
open Go
section
variable {α : Type}
noncomputable def fSp (l : List V) : (List V → α) → α := List.rec (motive := fun _ => (List V → α) → α) (fun k => k []) (fun v _ ih k => ih fun r => k (v :: r)) l
theorem fSp_eq (l : List V) : ∀ k : List V → α, fSp l k = k l := by
  induction l with
  | nil => intro k; rfl
  | cons b r ih => intro k; show fSp r (fun r => k (b :: r)) = _; rw [ih]
noncomputable def fSpB (l : List UInt8) : (List UInt8 → α) → α := List.rec (motive := fun _ => (List UInt8 → α) → α) (fun k => k []) (fun v _ ih k => ih fun r => k (v :: r)) l
theorem fSpB_eq (l : List UInt8) : ∀ k : List UInt8 → α, fSpB l k = k l := by
  induction l with
  | nil => intro k; rfl
  | cons b r ih => intro k; show fSpB r (fun r => k (b :: r)) = _; rw [ih]
noncomputable def fSpO (l : Heap) : (Heap → α) → α := List.rec (motive := fun _ => (Heap → α) → α) (fun k => k []) (fun v _ ih k => ih fun r => k (v :: r)) l
theorem fSpO_eq (l : Heap) : ∀ k : Heap → α, fSpO l k = k l := by
  induction l with
  | nil => intro k; rfl
  | cons b r ih => intro k; show fSpO r (fun r => k (b :: r)) = _; rw [ih]
noncomputable def shV (v : V) (k : V → α) : α := match v with
  | .bool b => fBool b fun b => k (.bool b)
  | .int i n => fKind i fun i => fInt n fun n => k (.int i n)
  | .str s => fSpB s fun s => k (.str s)
  | .ptr b v o => fNat b fun b => fNat v fun v => fNat o fun o => k (.ptr b v o)
  | .iptr cs => fSp cs fun cs => k (.iptr cs)
  | .sl sz n cs => fNat sz fun sz => fNat n fun n => fSp cs fun cs => k (.sl sz n cs)
  | .msl b v o sz n => fNat b fun b => fNat v fun v => fNat o fun o => fNat sz fun sz => fNat n fun n => k (.msl b v o sz n)
  | .map b => fNat b fun b => k (.map b)
  | .iter b => fNat b fun b => k (.iter b)
  | .tptr t n b => fNat t fun t => fNat n fun n => fNat b fun b => k (.tptr t n b)
  | .tsl t b v n => fNat t fun t => fNat b fun b => fNat v fun v => fNat n fun n => k (.tsl t b v n)
  | .agg cs => fSp cs fun cs => k (.agg cs)
  | .tuple cs => fSp cs fun cs => k (.tuple cs)
  | v => k v
theorem shV_eq (v : V) (k : V → α) : shV v k = k v := by
  cases v <;> simp only [shV, fBool_eq, fKind_eq, fInt_eq, fSpB_eq, fSp_eq, fNat_eq]
noncomputable def shB (x : Blk) (k : Blk → α) : α := match x with
  | .row cs mu ver => fSp cs fun cs => fBool mu fun mu => fNat ver fun ver => k (.row cs mu ver)
  | x => k x
theorem shB_eq (v : Blk) (k : Blk → α) : shB v k = k v := by
  cases v <;> simp only [shB, fBool_eq, fSp_eq, fNat_eq]
noncomputable def putF (wr : List (Nat × Blk)) : Heap → (Heap → α) → α := List.rec (motive := fun _ => Heap → (Heap → α) → α) (fun H k => k H) (fun x _ ih H k => Prod.rec (motive := fun _ => α) (fun b y => shB y fun y => fSpO (H.put b (some y)) fun H => ih H k) x) wr
theorem putF_eq (wr : List (Nat × Blk)) : ∀ (H : Heap) (k : Heap → α), putF wr H k = k (putAll H wr) := by
  induction wr with
  | nil => intro H k; rfl
  | cons x r ih =>
    intro H k
    obtain ⟨b, y⟩ := x
    show shB y (fun y => fSpO (H.put b (some y)) fun H => putF r H k) = _
    rw [shB_eq, fSpO_eq, ih]
    rfl
end

/- values without references -/
noncomputable def both (a b : Bool) : Bool := Bool.rec (motive := fun _ => Bool) false b a
theorem both_true {a b : Bool} (h : both a b = true) : a = true ∧ b = true := by cases a <;> cases b <;> simp_all [both]
noncomputable def plainR (v : V) : Bool := V.rec (motive_1 := fun _ => Bool) (motive_2 := fun _ => Bool)
  true true (fun _ => true) (fun _ _ => true) (fun _ => true) true (fun _ _ _ => false) (fun _ ih => ih) true true (fun _ _ _ ih => ih) (fun _ _ _ _ _ => false)
  true (fun _ => false) (fun _ => false) (fun _ => false) (fun _ _ _ => false) true (fun _ _ _ _ => false) true (fun _ _ _ a b => both a b) true (fun _ _ ih => ih) (fun _ ih => ih) (fun _ ih => ih)
  true (fun _ _ a b => both a b) v
noncomputable def plainL (l : List V) : Bool := List.rec (motive := fun _ => Bool) true (fun v _ ih => both (plainR v) ih) l
theorem plain_ok (v : V) : plainR v = true → v.refs = [] ∧ v.msls = [] ∧ ∀ m, v.ren m = v :=
  V.rec (motive_1 := fun v => plainR v = true → v.refs = [] ∧ v.msls = [] ∧ ∀ m, v.ren m = v)
    (motive_2 := fun l => plainR (.agg l) = true → refsL l = [] ∧ mslsL l = [] ∧ ∀ m, renL m l = l)
    (fun _ => by simp [V.refs, V.msls, V.ren])
    (fun _ => by simp [V.refs, V.msls, V.ren])
    (fun _ _ => by simp [V.refs, V.msls, V.ren])
    (fun _ _ _ => by simp [V.refs, V.msls, V.ren])
    (fun _ _ => by simp [V.refs, V.msls, V.ren])
    (fun _ => by simp [V.refs, V.msls, V.ren])
    (fun _ _ _ h => by cases h)
    (fun cs ih h => by have := ih h; simp [V.refs, V.msls, V.ren, this])
    (fun _ => by simp [V.refs, V.msls, V.ren])
    (fun _ => by simp [V.refs, V.msls, V.ren])
    (fun _ _ cs ih h => by have := ih h; simp [V.refs, V.msls, V.ren, this])
    (fun _ _ _ _ _ h => by cases h)
    (fun _ => by simp [V.refs, V.msls, V.ren])
    (fun _ h => by cases h)
    (fun _ h => by cases h)
    (fun _ h => by cases h)
    (fun _ _ _ h => by cases h)
    (fun _ => by simp [V.refs, V.msls, V.ren])
    (fun _ _ _ _ h => by cases h)
    (fun _ => by simp [V.refs, V.msls, V.ren])
    (fun f a b ia ib h => by
      have h' : both (plainR (.agg a)) (plainR (.agg b)) = true := h
      have h1 := ia (both_true h').1
      have h2 := ib (both_true h').2
      simp [V.refs, V.msls, V.ren, h1, h2])
    (fun _ => by simp [V.refs, V.msls, V.ren])
    (fun _ v ih h => by have := ih h; simp [V.refs, V.msls, V.ren, this])
    (fun cs ih h => by have := ih h; simp [V.refs, V.msls, V.ren, this])
    (fun cs ih h => by have := ih h; simp [V.refs, V.msls, V.ren, this])
    (fun _ => by simp [refsL, mslsL, renL])
    (fun v r iv ir h => by
      have h' : both (plainR v) (plainR (.agg r)) = true := h
      have h1 := iv (both_true h').1
      have h2 := ir (both_true h').2
      simp [refsL, mslsL, renL, h1, h2]) v
theorem plainL_ok : ∀ {l : List V}, plainL l = true → refsL l = [] ∧ mslsL l = [] ∧ ∀ m, renL m l = l
  | [], _ => by simp [refsL, mslsL, renL]
  | v :: r, h => by
    have h' : both (plainR v) (plainL r) = true := h
    have h1 := plain_ok v (both_true h').1
    have h2 := plainL_ok (both_true h').2
    simp [refsL, mslsL, renL, h1, h2]

/- what is done with lists, for those without references -/
noncomputable def refsLF (l : List V) : List Nat := Bool.rec (motive := fun _ => List Nat) (refsL l) [] (plainL l)
theorem refsLF_eq (l : List V) : refsLF l = refsL l := by
  unfold refsLF
  cases h : plainL l
  · rfl
  · exact ((plainL_ok h).1).symm
noncomputable def mslsLF (l : List V) : List Nat := Bool.rec (motive := fun _ => List Nat) (mslsL l) [] (plainL l)
theorem mslsLF_eq (l : List V) : mslsLF l = mslsL l := by
  unfold mslsLF
  cases h : plainL l
  · rfl
  · exact ((plainL_ok h).2.1).symm
noncomputable def renVF (m : Nat → Option Nat) (v : V) : V := Bool.rec (motive := fun _ => V) (v.ren m) v (plainR v)
theorem renVF_eq (m : Nat → Option Nat) (v : V) : renVF m v = v.ren m := by
  unfold renVF
  cases h : plainR v
  · rfl
  · exact ((plain_ok v h).2.2 m).symm
noncomputable def renLF (m : Nat → Option Nat) (l : List V) : List V := Bool.rec (motive := fun _ => List V) (List.rec (motive := fun _ => List V) [] (fun v _ ih => renVF m v :: ih) l) l (plainL l)
theorem renLF_eq (m : Nat → Option Nat) (l : List V) : renLF m l = renL m l := by
  unfold renLF
  cases h : plainL l
  · show List.rec (motive := fun _ => List V) [] (fun v _ ih => renVF m v :: ih) l = _
    clear h
    induction l with
    | nil => rfl
    | cons v r ih =>
      show renVF m v :: List.rec (motive := fun _ => List V) [] (fun v _ ih => renVF m v :: ih) r = _
      rw [ih, renVF_eq]
      simp only [renL]
  · exact ((plainL_ok h).2.2 m).symm
noncomputable def blkRenF (m : Nat → Option Nat) (x : Blk) : Blk := match x with
  | .row cs mu ver => .row (renLF m cs) mu ver
  | x => x.ren m
theorem blkRenF_eq (m : Nat → Option Nat) (x : Blk) : blkRenF m x = x.ren m := by
  cases x <;> simp only [blkRenF, Blk.ren, renLF_eq]
noncomputable def blkRefsF (x : Blk) : List Nat := match x with
  | .row cs mu ver => refsLF cs
  | x => x.refs
theorem blkRefsF_eq (x : Blk) : blkRefsF x = x.refs := by
  cases x <;> simp only [blkRefsF, Blk.refs, refsLF_eq]
noncomputable def reachGF (H : Heap) : Nat → List Nat → List Nat → Option (List Nat)
  | 0, _, seen => some seen.reverse
  | _ + 1, [], seen => some seen.reverse
  | n + 1, b :: todo, seen =>
    if seen.contains b then reachGF H n todo seen
    else match H.get b with
      | some x => reachGF H n (blkRefsF x ++ todo) (b :: seen)
      | none => none
theorem reachGF_eq (H : Heap) : ∀ (n : Nat) (a b : List Nat), reachGF H n a b = reachGo H n a b
  | 0, _, _ => rfl
  | _ + 1, [], _ => rfl
  | n + 1, b :: todo, seen => by
    simp only [reachGF, reachGo, reachGF_eq H n, blkRefsF_eq]
    rfl
noncomputable def reachF (H : Heap) (l : List Nat) : Option (List Nat) := match l with
  | [] => some []
  | l => reachGF H 10000 l []
theorem reachF_eq (H : Heap) (l : List Nat) : reachF H l = reach H l := by
  cases l with
  | nil => rfl
  | cons a b => exact reachGF_eq H _ _ _
noncomputable def subHeapF (H : Heap) (l : List Nat) : Heap := l.map fun b => (H.get b).map (blkRenF (indexOf · l 0))
theorem subHeapF_eq (H : Heap) (l : List Nat) : subHeapF H l = subHeap H l := by
  unfold subHeapF subHeap
  simp only [show ∀ m, blkRenF m = Blk.ren m from fun m => funext (blkRenF_eq m)]
noncomputable def mergeAtF (H1 H' : Heap) (keys : List Nat) (b : Nat) : Option Blk :=
  match indexOf b keys 0 with
  | some j => (H'.get j).map (blkRenF (keys[·]?))
  | none => H1.get b
theorem mergeAtF_eq (H1 H' : Heap) (keys : List Nat) (b : Nat) : mergeAtF H1 H' keys b = mergeAt H1 H' keys b := by
  unfold mergeAtF mergeAt
  simp only [show ∀ m, blkRenF m = Blk.ren m from fun m => funext (blkRenF_eq m)]
  rfl
/-- A call, whatever is handed in. -/
noncomputable def callPG (mu : Bool) (call : CallFn) (f : FuncId) (as : List V) (fresh : Nat → Nat) (H : Heap) : Option Res :=
    let avf := if mu then (V.tuple as, []) else match mslsLF as with
      | [] => (V.tuple as, [])
      | _ => resolve H 4 (.tuple as)
    match avf with
    | (.tuple args, frz) =>
      let H1 := freezeRows H frz
      match reachF H1 (refsLF args) with
      | none => none
      | some l => fNats l fun l =>
        match call f (renLF (indexOf · l 0) args) (subHeapF H1 l) with
      | none => none
      | some (r, H') =>
        if l.isEmpty && H'.isEmpty && r.flat then some { v := r, rd := frz }
        else if (H'.take l.length).all Option.isSome && l.length ≤ H'.length then
          fNats (l ++ (List.range (H'.length - l.length)).map fresh) fun keys =>
          some { v := renVF (keys[·]?) r, wr := (frz ++ keys).filterMap (fun b => (mergeAtF H1 H' keys b).map fun x => (b, x)), rd := frz ++ keys }
        else none
    | _ => none
theorem callPG_eq (mu call f as fresh H) : callPG mu call f as fresh H = callP mu call f as fresh H := by
  unfold callPG callP
  have e : (if mu then (V.tuple as, []) else match mslsLF as with
      | [] => (V.tuple as, [])
      | _ => resolve H 4 (.tuple as)) = (if mu then (V.tuple as, []) else resolve H 4 (.tuple as)) := by
    split
    · rfl
    · rw [mslsLF_eq]
      split
      · rename_i h
        show _ = (match (V.tuple as).msls with | [] => _ | l => _)
        simp only [V.msls, h]
      · rfl
  simp only [e, reachF_eq, refsLF_eq, renLF_eq, subHeapF_eq, mergeAtF_eq, renVF_eq, fNats_eq]
  generalize (if mu = true then (V.tuple as, []) else resolve H 4 (.tuple as)) = avf
  obtain ⟨v, frz⟩ := avf
  cases v <;> rfl
theorem reach_nil (H : Heap) : reach H [] = some [] := rfl
/-- A call of values without references. -/
noncomputable def callPF (mu : Bool) (call : CallFn) (f : FuncId) (as : List V) (fresh : Nat → Nat) (H : Heap) : Option Res :=
  match plainL as with
  | true => match call f as [] with
    | some (r, []) => match plainR r with
      | true => some { v := r }
      | false => callPG mu call f as fresh H
    | some _ => callPG mu call f as fresh H
    | none => none
  | false => callPG mu call f as fresh H
theorem callPF_eq {mu call f as fresh H r} (h : callPF mu call f as fresh H = some r) : callP mu call f as fresh H = some r := by
  unfold callPF at h
  split at h
  · rename_i hp
    obtain ⟨h1, h2, h3⟩ := plainL_ok hp
    split at h
    · rename_i v hc
      split at h
      · rename_i hv
        cases h
        obtain ⟨k1, k2, k3⟩ := plain_ok v hv
        have e1 : (if mu then (V.tuple as, []) else resolve H 4 (.tuple as)) = (V.tuple as, []) := by
          split
          · rfl
          · show (match (V.tuple as).msls with | [] => _ | l => _) = _
            simp only [V.msls, h2]
        unfold callP
        rw [e1]
        simp only [freezeRows, List.foldl_nil, h1, reach_nil, h3, subHeap, List.map_nil, hc, List.isEmpty_nil, Bool.true_and]
        split
        · rfl
        · simp [k3]
      · rw [← callPG_eq]; exact h
    · rw [← callPG_eq]; exact h
    · cases h
  · rw [← callPG_eq]; exact h
section
variable (X : Ctx)
noncomputable def callVF (call : CallFn) (fresh : Nat → Nat) (H : Heap) (f : FuncId) (as : List V) : Option Res :=
  match X.ext f with
  | some F => (F as).map fun v => { v }
  | none => if f = yieldId then none else callPF (X.mutArgs f) call f as fresh H
theorem callVF_eq {call f as fresh H r} (h : callVF X call fresh H f as = some r) : callV X call f as fresh H = some r := by
  unfold callVF at h
  unfold callV
  revert h
  cases X.ext f with
  | some F => exact id
  | none =>
    simp only
    split
    · intro h; cases h
    · exact callPF_eq
end
def CallLe (c c' : CallFn) : Prop := ∀ f as H r, c f as H = some r → c' f as H = some r
theorem callP_le {c c' : CallFn} (hc : CallLe c c') {mu f as fresh H r} (h : callP mu c f as fresh H = some r) : callP mu c' f as fresh H = some r := by
  unfold callP at h ⊢
  revert h
  generalize (if mu = true then (V.tuple as, []) else resolve H 4 (.tuple as)) = avf
  intro h
  simp only at h ⊢
  split at h
  · rename_i args ha
    split at h
    · cases h
    · rename_i l hl
      split at h
      · cases h
      · rename_i v H' hv
        rw [hc _ _ _ _ hv]
        exact h
  · cases h
theorem callV_le {X : Ctx} {c c' : CallFn} (hc : CallLe c c') {f as fresh H r} (h : callV X c f as fresh H = some r) : callV X c' f as fresh H = some r := by
  unfold callV at h ⊢
  split at h
  · rename_i F hF
    exact h
  · rename_i hF
    split at h
    · cases h
    · rename_i hy
      rw [if_neg hy]; exact callP_le hc h
theorem opK_le {X : Ctx} {cv cv' : FuncId → List V → Option Res} {cp cp' : List V → Option Res} (h1 : ∀ f as r, cv f as = some r → cv' f as = some r) (h2 : ∀ as r, cp as = some r → cp' as = some r)
    {o fresh ρ H r} (h : opK X cv cp o fresh ρ H = some r) : opK X cv' cp' o fresh ρ H = some r := by
  unfold opK at h ⊢
  cases o
  case call c =>
    simp only at h ⊢
    cases hc : c.callee with
    | builtin b => rw [hc] at h; exact h
    | value f =>
      rw [hc] at h
      simp only at h ⊢
      revert h
      generalize ρ f = v
      unfold aValue
      intro h
      split at h
      · exact h1 _ _ _ h
      · split at h
        · split at h
          · exact h1 _ _ _ h
          · cases h
        · cases h
      · exact h2 _ _ h
      · cases h
    | invoke x n =>
      rw [hc] at h
      simp only at h ⊢
      unfold aInvoke at h ⊢
      split at h
      · split at h
        · exact h1 _ _ _ h
        · cases h
      · cases h
  all_goals exact h
end Go.Ev
