/- A part of the proof of BenchRefuses: no statement of the seat's stands here. -/
import Derived.Test.YtbcackicpjobmaaGreatDoorEvK
set_option linter.unusedSectionVars false
set_option linter.unusedSimpArgs false
set_option linter.unusedVariables false
set_option linter.all false
/- Calls whose arguments are brought into their plainest form ahead of them: what is asked twice is then found, not run again. -/
set_option linter.unusedVariables false
namespace Go.Ev
open Go
universe u
variable {α : Type u}

noncomputable def fNat (n : Nat) (k : Nat → α) : α := Nat.rec (motive := fun _ => α) (k 0) (fun m _ => k (Nat.succ m)) n
noncomputable def fInt (z : Int) (k : Int → α) : α := Int.rec (motive := fun _ => α) (fun n => fNat n fun n => k (.ofNat n)) (fun n => fNat n fun n => k (.negSucc n)) z
noncomputable def fBool (b : Bool) (k : Bool → α) : α := Bool.rec (motive := fun _ => α) (k false) (k true) b
noncomputable def fKind (b : IntKind) (k : IntKind → α) : α := IntKind.rec (motive := fun _ => α) (k .i8) (k .i16) (k .i32) (k .i64) (k .u8) (k .u16) (k .u32) (k .u64) b
noncomputable def fByte (b : UInt8) (k : UInt8 → α) : α := fNat b.toNat fun n => k (UInt8.ofNat n)
noncomputable def fBytes (l : List UInt8) : (List UInt8 → α) → α := List.rec (motive := fun _ => (List UInt8 → α) → α) (fun k => k []) (fun b _ ih k => fByte b fun b => ih fun r => k (b :: r)) l
noncomputable def mDead   (k : V → α) : α := k (V.dead)
noncomputable def mJunk   (k : V → α) : α := k (V.junk)
noncomputable def mBool (b : Bool)  (k : V → α) : α := fBool b fun b => k (V.bool b)
noncomputable def mInt (i : IntKind) (n : Int)  (k : V → α) : α := fKind i fun i => fInt n fun n => k (V.int i n)
noncomputable def mStr (s : List UInt8)  (k : V → α) : α := fBytes s fun s => k (V.str s)
noncomputable def mNilptr   (k : V → α) : α := k (V.nilptr)
noncomputable def mPtr (b : Nat) (v : Nat) (o : Nat)  (k : V → α) : α := fNat b fun b => fNat v fun v => fNat o fun o => k (V.ptr b v o)
noncomputable def mIptr (cs : List V) (ihcs : (List V → α) → α) (k : V → α) : α := ihcs fun cs => k (V.iptr cs)
noncomputable def mNilsl   (k : V → α) : α := k (V.nilsl)
noncomputable def mSlz   (k : V → α) : α := k (V.slz)
noncomputable def mSl (sz : Nat) (n : Nat) (cs : List V) (ihcs : (List V → α) → α) (k : V → α) : α := fNat sz fun sz => fNat n fun n => ihcs fun cs => k (V.sl sz n cs)
noncomputable def mMsl (b : Nat) (v : Nat) (o : Nat) (sz : Nat) (n : Nat)  (k : V → α) : α := fNat b fun b => fNat v fun v => fNat o fun o => fNat sz fun sz => fNat n fun n => k (V.msl b v o sz n)
noncomputable def mNilmap   (k : V → α) : α := k (V.nilmap)
noncomputable def mMap (b : Nat)  (k : V → α) : α := fNat b fun b => k (V.map b)
noncomputable def mIter (b : Nat)  (k : V → α) : α := fNat b fun b => k (V.iter b)
noncomputable def mYield (b : Nat)  (k : V → α) : α := fNat b fun b => k (V.yield b)
noncomputable def mTptr (t : Nat) (n : Nat) (b : Nat)  (k : V → α) : α := fNat t fun t => fNat n fun n => fNat b fun b => k (V.tptr t n b)
noncomputable def mTnil   (k : V → α) : α := k (V.tnil)
noncomputable def mTsl (t : Nat) (b : Nat) (v : Nat) (n : Nat)  (k : V → α) : α := fNat t fun t => fNat b fun b => fNat v fun v => fNat n fun n => k (V.tsl t b v n)
noncomputable def mNilfunc   (k : V → α) : α := k (V.nilfunc)
noncomputable def mFunc (f : Fn) (a : List V) (b : List V) (iha : (List V → α) → α) (ihb : (List V → α) → α) (k : V → α) : α := iha fun a => ihb fun b => k (V.func f a b)
noncomputable def mNiliface   (k : V → α) : α := k (V.niliface)
noncomputable def mIface (t : Nat) (v : V) (ihv : (V → α) → α) (k : V → α) : α := fNat t fun t => ihv fun v => k (V.iface t v)
noncomputable def mAgg (cs : List V) (ihcs : (List V → α) → α) (k : V → α) : α := ihcs fun cs => k (V.agg cs)
noncomputable def mTuple (cs : List V) (ihcs : (List V → α) → α) (k : V → α) : α := ihcs fun cs => k (V.tuple cs)
noncomputable def mNil (k : List V → α) : α := k []
noncomputable def mCons (v : V) (r : List V) (iv : (V → α) → α) (ir : (List V → α) → α) (k : List V → α) : α := iv fun v => ir fun r => k (v :: r)
noncomputable def fV (v : V) : (V → α) → α := V.rec (motive_1 := fun _ => (V → α) → α) (motive_2 := fun _ => (List V → α) → α) mDead mJunk mBool mInt mStr mNilptr mPtr mIptr mNilsl mSlz mSl mMsl mNilmap mMap mIter mYield mTptr mTnil mTsl mNilfunc mFunc mNiliface mIface mAgg mTuple mNil mCons v
noncomputable def fVs (l : List V) : (List V → α) → α := V.rec_1 (motive_1 := fun _ => (V → α) → α) (motive_2 := fun _ => (List V → α) → α) mDead mJunk mBool mInt mStr mNilptr mPtr mIptr mNilsl mSlz mSl mMsl mNilmap mMap mIter mYield mTptr mTnil mTsl mNilfunc mFunc mNiliface mIface mAgg mTuple mNil mCons l
noncomputable def fL (l : List V) : (List V → α) → α := List.rec (motive := fun _ => (List V → α) → α) (fun k => k []) (fun v _ ih k => fV v fun v => ih fun r => k (v :: r)) l
noncomputable def fEs (l : List (V × V)) : (List (V × V) → α) → α := List.rec (motive := fun _ => (List (V × V) → α) → α) (fun k => k []) (fun v _ ih k => Prod.rec (motive := fun _ => α) (fun a b => fV a fun a => fV b fun b => ih fun r => k ((a, b) :: r)) v) l
noncomputable def fNats (l : List Nat) : (List Nat → α) → α := List.rec (motive := fun _ => (List Nat → α) → α) (fun k => k []) (fun v _ ih k => fNat v fun v => ih fun r => k (v :: r)) l
noncomputable def fBlk (x : Blk) (k : Blk → α) : α := Blk.rec (motive := fun _ => α)
  (fun cs mu ver => fL cs fun cs => fBool mu fun mu => fNat ver fun ver => k (.row cs mu ver))
  (fun es => fEs es fun es => k (.map es))
  (fun s p => fBytes s fun s => fNat p fun p => k (.iter s p))
  (fun f tm ps a b st => fL tm fun tm => k (.loop f tm ps a b st))
  (fun m s l t => fV m fun m => fNat s fun s => fNats l fun l => fNat t fun t => k (.miter m s l t)) x
noncomputable def fOBlk (x : Option Blk) (k : Option Blk → α) : α := Option.rec (motive := fun _ => α) (k none) (fun x => fBlk x fun x => k (some x)) x
noncomputable def fH (l : Heap) : (Heap → α) → α := List.rec (motive := fun _ => (Heap → α) → α) (fun k => k []) (fun v _ ih k => fOBlk v fun v => ih fun r => k (v :: r)) l
noncomputable def fRes (r : Option (V × Heap)) : Option (V × Heap) := Option.rec (motive := fun _ => Option (V × Heap)) none (fun x => Prod.rec (motive := fun _ => Option (V × Heap)) (fun v H => fV v fun v => fH H fun H => some (v, H)) x) r
noncomputable def memoF (F : List V → Heap → Option (V × Heap)) (as : List V) (H : Heap) : Option (V × Heap) := fL as fun as => fH H fun H => fRes (F as H)

theorem fNat_eq (n : Nat) (k : Nat → α) : fNat n k = k n := by cases n <;> rfl
theorem fInt_eq (n : Int) (k : Int → α) : fInt n k = k n := by cases n <;> simp [fInt, fNat_eq]
theorem fBool_eq (n : Bool) (k : Bool → α) : fBool n k = k n := by cases n <;> rfl
theorem fKind_eq (n : IntKind) (k : IntKind → α) : fKind n k = k n := by cases n <;> rfl
theorem fByte_eq (n : UInt8) (k : UInt8 → α) : fByte n k = k n := by simp [fByte, fNat_eq]
theorem fBytes_eq (l : List UInt8) : ∀ k : List UInt8 → α, fBytes l k = k l := by
  induction l with
  | nil => intro k; rfl
  | cons b r ih => intro k; show fByte b (fun b => fBytes r fun r => k (b :: r)) = _; rw [fByte_eq, ih]
theorem fV_eq (v : V) : ∀ k : V → α, fV v k = k v := V.rec (motive_1 := fun v => ∀ k : V → α, fV v k = k v) (motive_2 := fun l => ∀ k : List V → α, fVs l k = k l)
  (fun k => rfl)
  (fun k => rfl)
  (fun b  k => by
    show (fBool b fun b => k (V.bool b)) = _
    rw [fBool_eq])
  (fun i n  k => by
    show (fKind i fun i => fInt n fun n => k (V.int i n)) = _
    rw [fKind_eq, fInt_eq])
  (fun s  k => by
    show (fBytes s fun s => k (V.str s)) = _
    rw [fBytes_eq])
  (fun k => rfl)
  (fun b v o  k => by
    show (fNat b fun b => fNat v fun v => fNat o fun o => k (V.ptr b v o)) = _
    rw [fNat_eq, fNat_eq, fNat_eq])
  (fun cs hcs k => by
    show (fVs cs fun cs => k (V.iptr cs)) = _
    rw [hcs])
  (fun k => rfl)
  (fun k => rfl)
  (fun sz n cs hcs k => by
    show (fNat sz fun sz => fNat n fun n => fVs cs fun cs => k (V.sl sz n cs)) = _
    rw [fNat_eq, fNat_eq, hcs])
  (fun b v o sz n  k => by
    show (fNat b fun b => fNat v fun v => fNat o fun o => fNat sz fun sz => fNat n fun n => k (V.msl b v o sz n)) = _
    rw [fNat_eq, fNat_eq, fNat_eq, fNat_eq, fNat_eq])
  (fun k => rfl)
  (fun b  k => by
    show (fNat b fun b => k (V.map b)) = _
    rw [fNat_eq])
  (fun b  k => by
    show (fNat b fun b => k (V.iter b)) = _
    rw [fNat_eq])
  (fun b  k => by
    show (fNat b fun b => k (V.yield b)) = _
    rw [fNat_eq])
  (fun t n b  k => by
    show (fNat t fun t => fNat n fun n => fNat b fun b => k (V.tptr t n b)) = _
    rw [fNat_eq, fNat_eq, fNat_eq])
  (fun k => rfl)
  (fun t b v n  k => by
    show (fNat t fun t => fNat b fun b => fNat v fun v => fNat n fun n => k (V.tsl t b v n)) = _
    rw [fNat_eq, fNat_eq, fNat_eq, fNat_eq])
  (fun k => rfl)
  (fun f a b ha hb k => by
    show (fVs a fun a => fVs b fun b => k (V.func f a b)) = _
    rw [ha, hb])
  (fun k => rfl)
  (fun t v hv k => by
    show (fNat t fun t => fV v fun v => k (V.iface t v)) = _
    rw [fNat_eq, hv])
  (fun cs hcs k => by
    show (fVs cs fun cs => k (V.agg cs)) = _
    rw [hcs])
  (fun cs hcs k => by
    show (fVs cs fun cs => k (V.tuple cs)) = _
    rw [hcs])
  (fun k => rfl)
  (fun v r hv hr k => by
    show (fV v (fun v => fVs r fun r => k (v :: r))) = _
    rw [hv, hr]) v
theorem fL_eq (l : List V) : ∀ k : List V → α, fL l k = k l := by
  induction l with
  | nil => intro k; rfl
  | cons b r ih => intro k; show fV b (fun b => fL r fun r => k (b :: r)) = _; rw [fV_eq, ih]
theorem fEs_eq (l : List (V × V)) : ∀ k : List (V × V) → α, fEs l k = k l := by
  induction l with
  | nil => intro k; rfl
  | cons b r ih => intro k; obtain ⟨a, b⟩ := b; show fV a (fun a => fV b fun b => fEs r fun r => k ((a, b) :: r)) = _; rw [fV_eq, fV_eq, ih]
theorem fNats_eq (l : List Nat) : ∀ k : List Nat → α, fNats l k = k l := by
  induction l with
  | nil => intro k; rfl
  | cons b r ih => intro k; show fNat b (fun b => fNats r fun r => k (b :: r)) = _; rw [fNat_eq, ih]
theorem fBlk_eq (x : Blk) (k : Blk → α) : fBlk x k = k x := by
  cases x with
  | row cs mu ver => show fL cs (fun cs => fBool mu fun mu => fNat ver fun ver => k (.row cs mu ver)) = _; rw [fL_eq, fBool_eq, fNat_eq]
  | map es => show fEs es (fun es => k (.map es)) = _; rw [fEs_eq]
  | iter s p => show fBytes s (fun s => fNat p fun p => k (.iter s p)) = _; rw [fBytes_eq, fNat_eq]
  | loop f tm ps a b st => show fL tm (fun tm => k (.loop f tm ps a b st)) = _; rw [fL_eq]
  | miter m s l t => show fV m (fun m => fNat s fun s => fNats l fun l => fNat t fun t => k (.miter m s l t)) = _; rw [fV_eq, fNat_eq, fNats_eq, fNat_eq]
theorem fOBlk_eq (x : Option Blk) (k : Option Blk → α) : fOBlk x k = k x := by
  cases x with
  | none => rfl
  | some x => exact fBlk_eq x fun x => k (some x)
theorem fH_eq (l : Heap) : ∀ k : Heap → α, fH l k = k l := by
  induction l with
  | nil => intro k; rfl
  | cons b r ih => intro k; show fOBlk b (fun b => fH r fun r => k (b :: r)) = _; rw [fOBlk_eq, ih]
theorem fRes_eq (r : Option (V × Heap)) : fRes r = r := by
  cases r with
  | none => rfl
  | some x => obtain ⟨v, H⟩ := x; show fV v (fun v => fH H fun H => some (v, H)) = _; rw [fV_eq, fH_eq]
theorem memoF_eq (F : List V → Heap → Option (V × Heap)) (as : List V) (H : Heap) : memoF F as H = F as H := by
  unfold memoF; rw [fL_eq, fH_eq, fRes_eq]

/-- Functions whose calls are remembered. -/
noncomputable def Ctx.memo (X : Ctx) (l : List FuncId) (n : Nat) : Ctx :=
  Ctx.mk X.P X.glob (fun g => if l.contains g then some (memoF (evCall X n g)) else X.spec g) X.ext X.mutArgs X.keepRes X.keepSlots X.typed
theorem Good.memo {X : Ctx} (h : Good X) {l : List FuncId} {n : Nat} (hl : (l.all fun f => f != yieldId) = true) : Good (X.memo l n) := by
  refine ⟨h.mixed, h.names, fun W => ⟨(h.ctx W).glob, (h.ctx W).ext⟩, fun W g G hG args H r H' hr => ?_⟩
  have hG' : (if l.contains g then some (memoF (evCall X n g)) else X.spec g) = some G := hG
  split at hG'
  · rename_i e
    cases hG'
    rw [memoF_eq] at hr
    have := List.all_eq_true.1 hl g (by simpa using e)
    exact h.calls hr W (by simpa using this)
  · exact h.hooks W g G hG' args H r H' hr
end Go.Ev
/- The evaluator once more, so laid that the kernel runs it well: operations one arm each, registers in a tree. -/
set_option linter.unusedVariables false
namespace Go.Ev
open Go
section
variable (X : Ctx)
def aPick (c a b : V) : Option Res := match c with
  | .bool true => some { v := a }
  | .bool false => some { v := b }
  | _ => none
def aAlloc (e : TypeId) (fresh : Nat → Nat) : Option Res := do
    let z ← zeroV X e
    if z.cells.all V.scalar then (match X.typed e with
      | none => some { v := .ptr (fresh 0) 0 0, wr := [(fresh 0, .row z.cells true 0)] }
      | some (t, n) => if t = e && n = z.cells.length then some { v := .tptr t n (fresh 0), wr := [(fresh 0, .row (z.cells.map tnilOf) true 0)] } else none) else none
def aBox (v : V) (fresh : Nat → Nat) : Option Res :=
    if v.cells.all V.scalar then some { v := .ptr (fresh 0) 0 0, wr := [(fresh 0, .row v.cells true 0)] } else none
def aBuild (t : TypeId) (parts : List (Nat × V)) : Option Res := do
    let .agg z := (← zeroV X t) | none
    let place (i : Nat) : Option (Nat × Nat) := match und X t with
      | some (.struct fs) => match fs[i]? with
        | some f => (size X f.type).map fun n => (f.offset, n)
        | none => none
      | some (.array _ e) => (size X e).map fun n => (i * n, n)
      | _ => none
    if !(← aggT X t) then none else
    if !(match und X t with | some (.struct fs) => fs.toList.all fun f => (size X f.type).isSome | some (.array _ e) => (size X e).isSome | _ => true) then none else
    some { v := .agg (← fillV place z parts) }
def aBuildSlice (t : TypeId) (len : Nat) (parts : List (Nat × V)) (fresh : Nat → Nat) : Option Res := do
    let .slice e := (← und X t) | none
    let n ← size X e
    let z := (← zeroV X e).cells
    if !(1 ≤ n && z.length = n && len * n ≤ 65536 && z.all V.scalar) then none else
    let cs ← fillV (fun i => some (i * n, n)) (List.replicate len z).flatten parts
    if len = 0 then some { v := .slz } else
    some { v := .msl (fresh 0) 0 0 n len, wr := [(fresh 0, .row cs true 0)] }
def aLoad (t : TypeId) (a : V) (H : Heap) : Option Res := do
    let (cs, rd) ← cellsAt H a
    some { v := ← takeV (← aggT X t) (← size X t) cs, rd }
def aStore (t : TypeId) (a x : V) (H : Heap) : Option Res := do
    if x.cells.length = (← size X t) then storeAt H a x.cells else none
def aNil (x : V) : Option Res := match x with
    | .ptr b ver o => some { v := .ptr b ver o }
    | .iptr cs => some { v := .iptr cs }
    | .tptr t n b => some { v := .tptr t n b }
    | _ => none
def aBin (op : BinOp) (t : TypeId) (x y : V) : Option Res := (binV X op t x y).map fun v => { v }
def aUn (op : UnOp) (x : V) : Option Res := (unV op x).map fun v => { v }
def aIface (t : TypeId) (x : V) : Option Res := match und X t with
    | some (.interface _) | none => none
    | some _ => some { v := .iface t x }
def aMakeMap (t : TypeId) (r : Option V) (fresh : Nat → Nat) : Option Res := (match und X t, r with
    | some (.map _ _), none | some (.map _ _), some (.int _ _) => some { v := .map (fresh 0), wr := [(fresh 0, .map [])] }
    | _, _ => none)
def aMakeSlice (t : TypeId) (len cap : V) (fresh : Nat → Nat) : Option Res := do
    let .slice e := (← und X t) | none
    let n ← size X e
    let by' ← bytesOf X e
    let z := (← zeroV X e).cells
    let l ← asI len
    let c ← asI cap
    if 0 ≤ l && l ≤ c && c.toNat * by' ≤ maxBytes && c ≤ maxBytes && 1 ≤ n && z.length = n && z.all V.scalar then
      if c = 0 then some { v := .slz } else
      some { v := .msl (fresh 0) 0 0 n l.toNat, wr := [(fresh 0, .row (List.replicate l.toNat z).flatten true 0)] }
    else none
def aField (t : TypeId) (x : V) (f : Nat) : Option Res := do
    let fd ← fieldOf X t f
    match x with
    | .agg cs => do some { v := ← partV X fd.type cs fd.offset }
    | _ => none
def aIndex (t : TypeId) (x ix : V) : Option Res := do
    let i ← asI ix
    match ← und X t, x with
    | .array n e, .agg cs => if 0 ≤ i && i < n then do some { v := ← partV X e cs (i.toNat * (← size X e)) } else none
    | .string, .str s => if 0 ≤ i then (s[i.toNat]?).map fun b => { v := .int .u8 b.toNat } else none
    | _, _ => none
def aRange (t : TypeId) (x : V) (fresh : Nat → Nat) (H : Heap) : Option Res := (match und X t, x with
    | some .string, .str s => some { v := .iter (fresh 0), wr := [(fresh 0, .iter s 0)] }
    | some (.map _ _), .map m => (match mapOf H m with
      | some es => some { v := .iter (fresh 0), wr := [(fresh 0, .miter (.map m) es.length [] es.length)], rd := [m] }
      | none => none)
    | some (.map _ _), .nilmap => some { v := .iter (fresh 0), wr := [(fresh 0, .miter .nilmap 0 [] 0)] }
    | _, _ => none)
def aNext (it : V) (b : Bool) (H : Heap) : Option Res := match b with
  | true => nextV it true H
  | false => nextMapV it H
def aExtract (t : V) (i : Nat) : Option Res := match t with
    | .tuple vs => (vs[i]?).map fun v => { v }
    | _ => none
def aValue (callv : FuncId → List V → Option Res) (callp : List V → Option Res) (f : V) (args : List V) : Option Res := match f with
      | .func (.func g) first caps => callv g (first ++ args ++ caps)
      | .func (.method name) (r :: first) _ => (match r with
        | .iface t v => (match methodV X t v name with
          | some (g, recv) => callv g (recv :: (first ++ args))
          | none => none)
        | _ => none)
      | .yield b => callp (.yield b :: args)
      | _ => none
def aInvoke (callv : FuncId → List V → Option Res) (r : V) (name : String) (args : List V) : Option Res := match r with
      | .iface t v => (match methodV X t v name with
        | some (g, recv) => callv g (recv :: args)
        | none => none)
      | _ => none
/-- One operation; callv: a call, callp: a round. -/
def opK (callv : FuncId → List V → Option Res) (callp : List V → Option Res) (o : Op) (fresh : Nat → Nat) (ρ : Operand → V) (H : Heap) : Option Res :=
  match o with
  | .move x => some { v := ρ x }
  | .assign x => some { v := ρ x }
  | .pick c a b => aPick (ρ c) (ρ a) (ρ b)
  | .alloc e => aAlloc X e fresh
  | .box _ x => aBox (ρ x) fresh
  | .build t parts => aBuild X t (parts.toList.map fun p => (p.1, ρ p.2))
  | .buildSlice t len parts => aBuildSlice X t len (parts.toList.map fun p => (p.1, ρ p.2)) fresh
  | .insert t m k v => updateV X t (ρ m) (ρ k) (ρ v) H
  | .mapUpdate t m k v => updateV X t (ρ m) (ρ k) (ρ v) H
  | .load t a => aLoad X t (ρ a) H
  | .store t a v => aStore X t (ρ a) (ρ v) H
  | .nilCheck x => aNil (ρ x)
  | .binOp op t x y _ => aBin X op t (ρ x) (ρ y)
  | .unOp op _ x => aUn op (ρ x)
  | .convert s d x => convV X s d (ρ x) fresh H
  | .makeInterface t x => aIface X t (ρ x)
  | .makeFunc fn first caps => some { v := .func fn (first.toList.map ρ) (caps.toList.map ρ) }
  | .makeMap t r => aMakeMap X t (r.map ρ) fresh
  | .makeSlice t len cap => aMakeSlice X t (ρ len) (ρ cap) fresh
  | .slice t x lo hi mx => sliceV X t (ρ x) (lo.map ρ) (hi.map ρ) (mx.map ρ) H
  | .fieldAddr t x f => fieldAddrV X t (ρ x) f
  | .field t x f => aField X t (ρ x) f
  | .indexAddr t x ix => indexAddrV X t (ρ x) (ρ ix) H
  | .index t x ix => aIndex X t (ρ x) (ρ ix)
  | .lookup t x ix ok => lookupV X t (ρ x) (ρ ix) ok H
  | .range t x => aRange X t (ρ x) fresh H
  | .next it b => aNext (ρ it) b H
  | .entry it => entryV (ρ it) H
  | .typeAssert x _ t ok => assertV X (ρ x) t ok
  | .extract t i => aExtract (ρ t) i
  | .call c => match c.callee with
    | .builtin b => builtinV X b c.argTypes (c.args.toList.map ρ) fresh H
    | .value f => aValue X callv callp (ρ f) (c.args.toList.map ρ)
    | .invoke r name => aInvoke X callv (ρ r) name (c.args.toList.map ρ)
  | _ => none
theorem opK_eq (call : CallFn) (o : Oper) (fresh ρ H) : opK X (fun g as => callV X call g as fresh H) (fun as => callP false call yieldId as fresh H) o.op fresh ρ H = evOpR X call o fresh ρ H := by
  unfold opK evOpR
  cases h : o.op
  case next it b => cases b <;> rfl
  case call c =>
    simp only
    cases hc : c.callee with
    | builtin b => rfl
    | value f =>
      simp only [aValue]
      generalize ρ f = v
      cases v <;> rfl
    | invoke r n => rfl
  all_goals first | rfl | (simp only [aLoad, aStore, aAlloc, aBox]; rfl)
end
end Go.Ev
