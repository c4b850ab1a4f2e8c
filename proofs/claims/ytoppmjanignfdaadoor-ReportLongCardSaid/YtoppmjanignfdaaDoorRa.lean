/- A part of the proof of ReportBack (the second form: what is handed in is of bulk at most 1048576): no statement of the seat's stands here. -/
import Derived.Lib.Bytealg
import Derived.Test.YtoppmjanignfdaaDoorProg
import Derived.KernelRfl
import Derived.Laws.Externs
import Derived.Test.YtoppmjanignfdaaDoorEvK
import Derived.Test.YtoppmjanignfdaaDoorEvJ
set_option linter.unusedSectionVars false
set_option linter.unusedSimpArgs false
set_option linter.unusedVariables false
set_option linter.all false
/- The first context over the program of the Report laws: what has no body, and strings.Join. -/
set_option linter.unusedVariables false
namespace Go.Proofs
open Go.Shelf Go.RowKit
def Tryd.laysJoin_ren : Go.Shelf.Ren := ⟨fun | 156 => 17 | 165 => 35 | 166 => 36 | 169 => 37 | 240 => 49 | 241 => 50 | 276 => 62 | 277 => 63 | n => n, fun | 31 => 51 | 9 => 9 | 3 => 3 | 4 => 4 | 0 => 0 | 20 => 20 | 72 => 70 | 76 => 74 | 70 => 68 | 37 => 40 | 75 => 73 | 127 => 89 | 164 => 99 | 5 => 5 | 80 => 76 | n => n, fun | n => n⟩
theorem Tryd.laysJoin : Go.Proofs.Lays.n156 Tryd.prog Tryd.laysJoin_ren := {
  mixed := by kernel_rfl
  f156 := Tryd.func17.trans (congrArg some (by kernel_rfl))
  f165 := Tryd.func35.trans (congrArg some (by kernel_rfl))
  f166 := Tryd.func36.trans (congrArg some (by kernel_rfl))
  f169 := Tryd.func37.trans (congrArg some (by kernel_rfl))
  f240 := Tryd.func49.trans (congrArg some (by kernel_rfl))
  f241 := Tryd.func50.trans (congrArg some (by kernel_rfl))
  f276 := Tryd.func62.trans (congrArg some (by kernel_rfl))
  f277 := Tryd.func63.trans (congrArg some (by kernel_rfl))
  t0 := Tryd.underlying0
  a0 := Tryd.isAgg0
  z0 := Tryd.sizeOf0
  v0 := Tryd.zeroValue0
  t3 := Tryd.underlying3
  a3 := Tryd.isAgg3
  z3 := Tryd.sizeOf3
  v3 := Tryd.zeroValue3
  t4 := Tryd.underlying4
  a4 := Tryd.isAgg4
  z4 := Tryd.sizeOf4
  v4 := Tryd.zeroValue4
  t9 := Tryd.underlying9
  a9 := Tryd.isAgg9
  z9 := Tryd.sizeOf9
  v9 := Tryd.zeroValue9
  t20 := Tryd.underlying20
  a20 := Tryd.isAgg20
  z20 := Tryd.sizeOf20
  v20 := Tryd.zeroValue20
  t31 := Tryd.underlying51
  a31 := Tryd.isAgg51
  z31 := Tryd.sizeOf51
  v31 := Tryd.zeroValue51
  t37 := Tryd.underlying40
  a37 := Tryd.isAgg40
  z37 := Tryd.sizeOf40
  v37 := Tryd.zeroValue40
  t70 := Tryd.underlying68
  a70 := Tryd.isAgg68
  z70 := Tryd.sizeOf68
  v70 := Tryd.zeroValue68
  t72 := Tryd.underlying70
  a72 := Tryd.isAgg70
  z72 := Tryd.sizeOf70
  v72 := Tryd.zeroValue70
  t75 := Tryd.underlying73
  a75 := Tryd.isAgg73
  z75 := Tryd.sizeOf73
  v75 := Tryd.zeroValue73
  t76 := Tryd.underlying74
  a76 := Tryd.isAgg74
  z76 := Tryd.sizeOf74
  v76 := Tryd.zeroValue74
  t127 := Tryd.underlying89
  a127 := Tryd.isAgg89
  z127 := Tryd.sizeOf89
  v127 := Tryd.zeroValue89
  t164 := Tryd.underlying99
  a164 := Tryd.isAgg99
  z164 := Tryd.sizeOf99
  v164 := Tryd.zeroValue99 }
theorem Tryd.extra : Builder.Extra Tryd.prog Tryd.laysJoin_ren where
  sizeBuilder := by kernel_rfl
  liesBuilder := by kernel_rfl
  t5 := by kernel_rfl
  a5 := Tryd.isAgg5
  z5 := Tryd.sizeOf5
  v5 := Tryd.zeroValue5
  infoByte := by kernel_rfl
  cellsByte := by kernel_rfl
  sizeByte := by kernel_rfl
  neB5 := by decide
end Go.Proofs
namespace Go.Ev
open Go Go.Proofs

def idxOf (c : Nat) : List UInt8 → Nat → Int
  | [], _ => -1
  | x :: r, i => if x.toNat = c then i else idxOf c r (i + 1)
theorem idxOf_eq (c : UInt8) : ∀ (l : List UInt8) (i : Nat), idxOf c.toNat l i = if Lib.indexByte l c = -1 then -1 else Lib.indexByte l c + i
  | [], i => by simp [idxOf, Lib.indexByte]
  | x :: r, i => by
    have hge := Lib.indexByte_ge r c
    unfold idxOf Lib.indexByte
    by_cases e : x.toNat = c.toNat
    · have : x = c := UInt8.toNat_inj.1 e
      subst this
      simp
    · have hx : ¬ x = c := fun h => e (by rw [h])
      rw [if_neg e, idxOf_eq c r (i + 1)]
      simp only [beq_iff_eq, hx, if_false]
      by_cases h1 : Lib.indexByte r c = -1
      · simp [h1]
      · simp only [h1, if_false]
        have : ¬ Lib.indexByte r c + 1 = -1 := by omega
        rw [if_neg this]
        omega
def cntOf (c : Nat) : List UInt8 → Nat → Nat
  | [], n => n
  | x :: r, n => if x.toNat = c then cntOf c r (n + 1) else cntOf c r n
theorem cntOf_eq (c : UInt8) : ∀ (l : List UInt8) (n : Nat), cntOf c.toNat l n = Lib.countByte l c + n
  | [], n => by simp [cntOf, Lib.countByte]
  | x :: r, n => by
    unfold cntOf
    by_cases e : x.toNat = c.toNat
    · have : x = c := UInt8.toNat_inj.1 e
      subst this
      rw [if_pos rfl, cntOf_eq x r]
      simp [Lib.countByte]; omega
    · have hx : ¬ x = c := fun h => e (by rw [h])
      rw [if_neg e, cntOf_eq c r]
      simp [Lib.countByte, List.count_cons, hx]
def exIndexByte : List V → Option V
  | [.str s, .int .u8 c] => if 0 ≤ c ∧ c < 256 then some (.int .i64 (idxOf c.toNat s 0)) else none
  | _ => none
def exCountByte : List V → Option V
  | [.str s, .int .u8 c] => if 0 ≤ c ∧ c < 256 then some (.int .i64 (cntOf c.toNat s 0 : Nat)) else none
  | _ => none

noncomputable def XR : Ctx := Ctx.mk Tryd.prog (fun _ => .dead)
  (fun f => if f = 17 then some spJoin else none)
  (fun f => if f = 74 then some exIndexByte else if f = 78 then some exCountByte else none)
  (fun _ => false) (fun _ => false) (fun _ => [])

theorem byteOf {c : Int} (h : 0 ≤ c ∧ c < 256) : (c.toNat.toUInt8).toNat = c.toNat := by
  have : c.toNat < 256 := by omega
  simp [Nat.toUInt8, UInt8.toNat, UInt8.ofNat]
  omega
theorem XR_ext {B : Mem} : CtxOK XR B := by
  refine ⟨fun g M ρ _ => by unfold XR; simp only; unfold VRel; trivial, fun f F args v hF hv w M ρ cargs hB hM ha => ?_⟩
  have hF' : (if f = 74 then some exIndexByte else if f = 78 then some exCountByte else none) = some F := hF
  split at hF'
  · rename_i e
    subst e
    cases hF'
    unfold exIndexByte at hv
    split at hv
    · rename_i s c
      split at hv
      · rename_i hc
        cases hv
        obtain ⟨a, b, rfl, h1, h2⟩ := args2 ha
        unfold VRel at h1 h2
        obtain ⟨bs, rfl, hs⟩ := h1
        subst h2
        refine ⟨.int .i64 (idxOf c.toNat s 0), ?_, by unfold VRel; rfl⟩
        show (callFunc 74 _).run Tryd.prog w = _
        rw [run_callFunc_extern Tryd.func74 (by kernel_rfl) (by kernel_rfl) (by kernel_rfl) (e := Extern.BytealgIndexByte.indexByte) (by kernel_rfl), Lib.run_indexByteString]
        have := idxOf_eq c.toNat.toUInt8 s 0
        rw [byteOf hc] at this
        simp only [Result.andThen_ok, hs, this]
        congr 3
        split
        · assumption
        · simp
      · cases hv
    · cases hv
  · split at hF'
    · rename_i e
      subst e
      cases hF'
      unfold exCountByte at hv
      split at hv
      · rename_i s c
        split at hv
        · rename_i hc
          cases hv
          obtain ⟨a, b, rfl, h1, h2⟩ := args2 ha
          unfold VRel at h1 h2
          obtain ⟨bs, rfl, hs⟩ := h1
          subst h2
          refine ⟨.int .i64 (cntOf c.toNat s 0 : Nat), ?_, by unfold VRel; rfl⟩
          show (callFunc 78 _).run Tryd.prog w = _
          rw [run_callFunc_extern Tryd.func78 (by kernel_rfl) (by kernel_rfl) (by kernel_rfl) (e := Extern.BytealgCount.count) (by kernel_rfl), Lib.run_countString]
          have := cntOf_eq c.toNat.toUInt8 s 0
          rw [byteOf hc] at this
          simp only [Result.andThen_ok, hs, this]
          simp
        · cases hv
      · cases hv
    · cases hF'
theorem joinEnters : Enters Tryd.prog 17 := ⟨_, Tryd.func17, by kernel_rfl, by kernel_rfl⟩
theorem XR_spec {B : Mem} : SpecOK XR B := by
  intro f F hF args H r H' h
  have hF' : (if f = 17 then some spJoin else none) = some F := hF
  split at hF'
  · rename_i e
    subst e
    cases hF'
    exact ⟨joinEnters, spJoin_ok Tryd.laysJoin Tryd.extra h⟩
  · cases hF'
theorem mixed : Tryd.prog.follows .mixedOrders = true := by kernel_rfl
theorem namesB : (Tryd.prog.funcs.toList.all fun fn => !(fn.name == "runtime.NumGoroutine")) = true := by kernel_rfl
theorem names : NamesOK Tryd.prog := fun f fn h => by
  have := List.all_eq_true.1 namesB fn (Array.mem_toList_iff.2 (Array.mem_of_getElem? h))
  simpa using this
set_option maxRecDepth 100000
theorem awake_ev : evCall XR 400 6 [] [] = some (.bool true, []) := by kernel_rfl
theorem awake (W : World) : Calls Tryd.prog 6 #[] W fun e w' => e = .returned (.bool true) ∧ RowKit.Below W.heap.size W w' :=
  (evCall_calls (X := XR) (W := W) mixed XR_ext names XR_spec awake_ev (cargs := #[]) (by unfold LRel; rfl)).mono fun e w' he => by
    obtain ⟨c, M', ρ', rfl, h1, h2, _⟩ := he
    unfold VRel at h1
    subst h1
    exact ⟨rfl, h2⟩
end Go.Ev
