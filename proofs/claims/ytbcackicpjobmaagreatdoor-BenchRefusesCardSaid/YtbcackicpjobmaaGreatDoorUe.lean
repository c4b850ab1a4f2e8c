/- A part of the proof of BenchRefuses: no statement of the seat's stands here. -/
import Derived.Deep.Slices
import Derived.Test.YtbcackicpjobmaaGreatDoorRows
import Derived.Test.YtbcackicpjobmaaGreatDoorUc
import Derived.Test.YtbcackicpjobmaaGreatDoorEvK
set_option linter.unusedSectionVars false
set_option linter.unusedSimpArgs false
set_option linter.unusedVariables false
set_option linter.all false
set_option linter.unusedVariables false
set_option linter.unusedSimpArgs false
set_option linter.unusedSectionVars false
set_option maxRecDepth 100000
/- What is handed in, as the evaluator's values. -/
namespace Go.Ev
open Go Go.Proofs Go.ChangeShapes Go.WideShapes Go.RowKit Go.Deep
open Go.Proofs.YtbcackicpjobmaaGreatDoor.Rows (uptoBulk uptoBulkAll)
section
variable {Hh : Type}
theorem bulk_pos : ∀ d : DataW Hh, 1 ≤ uptoBulk d
  | .lit (.string _) => by simp [uptoBulk]
  | .lit (.bool _) => by simp [uptoBulk]
  | .lit (.int ..) => by simp [uptoBulk]
  | .lit (.float ..) => by simp [uptoBulk]
  | .lit .nil => by simp [uptoBulk]
  | .nil => by simp [uptoBulk]
  | .ptr _ => by simp [uptoBulk]
  | .slice .. => by simp [uptoBulk]
  | .agg _ => by simp [uptoBulk]
  | .iface .. => by simp [uptoBulk]
  | .map _ => by simp [uptoBulk]
  | .held _ => by simp [uptoBulk]
theorem bulk_mem : ∀ {l : List (DataW Hh)} {d : DataW Hh}, d ∈ l → uptoBulk d ≤ uptoBulkAll l
  | x :: r, d, h => by
    simp only [uptoBulkAll]
    rcases List.mem_cons.1 h with rfl | h
    · omega
    · have := bulk_mem h; omega
theorem bulk_len : ∀ l : List (DataW Hh), l.length ≤ uptoBulkAll l
  | [] => by simp [uptoBulkAll]
  | x :: r => by
    have h1 := bulk_pos x
    have h2 := bulk_len r
    simp only [uptoBulkAll, List.length_cons]
    omega
end
theorem CRel.append' {M : Mem} {ρ : Rho} : ∀ {a b : List V} {blk off : Nat}, CRel M ρ blk off a → CRel M ρ blk (off + a.length) b → CRel M ρ blk off (a ++ b)
  | [], b, blk, off, _, h => by simpa using h
  | x :: r, b, blk, off, h, h' => by
    unfold CRel at h
    rw [List.cons_append]
    unfold CRel
    refine ⟨h.1, CRel.append' h.2 ?_⟩
    rw [show off + 1 + r.length = off + (x :: r).length from by simp; omega]
    exact h'
section
variable {Hh : Type} {enc : TypeId × Value → Hh} {P : Program} {W : World} {sp : Nat → Bool} {held : Bool}
theorem cells_spot {a : Addr} {n : Nat} {cs : List Value} (h : W.cells? 0 a n = some cs) (hn : 0 < n) : a.spot = none := by
  obtain ⟨_, hl, hc⟩ := World.cells?_some h
  have h0 := hc 0 hn
  have : a.add 0 = a := by simp [Addr.add]
  rw [this] at h0
  unfold World.cell? at h0
  rw [List.getElem?_eq_getElem (by omega)] at h0
  split at h0
  · split at h0
    · cases h0
    · rename_i hs; simpa using hs
  · cases h0
theorem add_eq {a : Addr} (h : a.spot = none) (n : Nat) : a.add n = ⟨a.block, a.off + n, none⟩ := by
  unfold Addr.add
  split
  · rename_i e
    subst e
    cases a
    simp at h ⊢
    exact h
  · rfl
theorem cells_rel {ρ : Rho} {a : Addr} (hs : a.spot = none) {n : Nat} {cs : List Value} (h : W.cells? 0 a n = some cs) {vs : List V} (hr : LRel (cellsOfW W) ρ vs cs) : CRel (cellsOfW W) ρ a.block a.off vs := by
  obtain ⟨_, hl, hc⟩ := World.cells?_some h
  refine CRel.of_get fun j v hv => ?_
  obtain ⟨x, hx, hvx⟩ := hr.get hv
  have hj : j < n := by
    have := (List.getElem?_eq_some_iff.1 hx).1
    omega
  have := hc j hj
  rw [add_eq hs, hx] at this
  exact ⟨x, this, hvx⟩
theorem flat_len {α : Type} {toV : α → List V} {sz : Nat} (hlen : ∀ a, (toV a).length = sz) : ∀ l : List α, (l.flatMap toV).length = l.length * sz
  | [] => by simp
  | x :: r => by rw [List.flatMap_cons, List.length_append, hlen, flat_len hlen r, List.length_cons, Nat.add_mul]; omega
/-- A slice that is handed in, element by element. -/
theorem read_slice {t e : TypeId} (ht : P.underlying t = some (.slice e)) {sz : Nat} (hsz : P.cellsOf e = sz) (hpos : 1 ≤ sz) {α : Type} [Inhabited α] (toV : α → List V) (hlen : ∀ a, (toV a).length = sz) (Ok : α → Prop) {B : Nat}
    (elem : ∀ (n : Nat) (cs : List Value) (x : DataW Hh × List MemPlace), DataW.trod enc P W 0 sp held n e cs = some x → uptoBulk x.1 ≤ B → ∃ a, Ok a ∧ LRel (cellsOfW W) noRho (toV a) cs)
    {fuel : Nat} {cs : List Value} {x : DataW Hh × List MemPlace} (h : DataW.trod enc P W 0 sp held fuel t cs = some x) (hB : uptoBulk x.1 ≤ B) :
    ∃ (v : Value) (u : V) (l : List α), cs = [v] ∧ VRel (cellsOfW W) noRho u v ∧ (∀ a ∈ l, Ok a) ∧ l.length ≤ B ∧ ((l = [] ∧ u = .nilsl) ∨ u = .sl sz l.length (l.flatMap toV)) := by
  rcases open_slice ht h with ⟨rfl, _⟩ | ⟨a, len, cap, m, n, D, Pl, rfl, hb, hl, hm, hmm, rfl, hx⟩
  · exact ⟨_, .nilsl, [], rfl, by unfold VRel; rfl, by simp, by simp, .inl ⟨rfl, rfl⟩⟩
  · have hlm : len ≤ m := by rw [hmm]; split <;> omega
    rw [hsz] at hx
    have hD : ∀ i, i < len → uptoBulk (D i) ≤ B := fun i hi => by
      have h1 : uptoBulk (D i) ≤ uptoBulkAll ((List.range len).map D) := bulk_mem (List.mem_map.2 ⟨i, by simpa using hi, rfl⟩)
      simp only [uptoBulk] at hB
      omega
    have hlB : len ≤ B := by
      have := bulk_len ((List.range len).map D)
      simp only [List.length_map, List.length_range] at this
      simp only [uptoBulk] at hB
      omega
    obtain ⟨f, hf⟩ := choose_lt (n := len) (p := fun i a => Ok a ∧ ∃ cs', W.cells? 0 (Addr.add _ (i * sz)) sz = some cs' ∧ LRel (cellsOfW W) noRho (toV a) cs') (fun i hi => by
      obtain ⟨cs', h1, h2⟩ := hx i (by omega)
      obtain ⟨y, h3, h4⟩ := elem _ _ _ h2 (hD i hi)
      exact ⟨y, h3, cs', h1, h4⟩)
    refine ⟨_, .sl sz len (((List.range len).map f).flatMap toV), (List.range len).map f, rfl, ?_, ?_, by simpa using hlB, .inr (by simp)⟩
    · unfold VRel
      refine ⟨a, cap, rfl, hl, ?_, hpos, ?_⟩
      · rw [flat_len hlen]; simp
      · by_cases h0 : len = 0
        · exact .inl h0
        · right
          obtain ⟨_, cs0, hc0, _⟩ := hf 0 (by omega)
          rw [Nat.zero_mul, show a.add 0 = a by simp [Addr.add]] at hc0
          have hs := cells_spot hc0 (by omega)
          refine ⟨hs, ?_⟩
          have key : ∀ k, k ≤ len → CRel (cellsOfW W) noRho a.block a.off (((List.range k).map f).flatMap toV) := by
            intro k
            induction k with
            | zero => intro _; simp; unfold CRel; trivial
            | succ k ih =>
              intro hk
              rw [List.range_succ, List.map_append, List.flatMap_append]
              refine CRel.append' (ih (by omega)) ?_
              obtain ⟨_, cs', hc', hr'⟩ := hf k (by omega)
              rw [add_eq hs] at hc'
              have := cells_rel rfl hc' hr'
              have hlk : (((List.range k).map f).flatMap toV).length = k * sz := by rw [flat_len hlen]; simp
              rw [hlk]
              simpa using this
          exact key len (Nat.le_refl _)
    · intro y hy
      obtain ⟨i, hi, rfl⟩ := List.mem_map.1 hy
      exact (hf i (by simpa using hi)).1
end
theorem cells5z : Tryz.prog.cellsOf 5 = 1 := by kernel_rfl
theorem cells3z : Tryz.prog.cellsOf 3 = 1 := by kernel_rfl
theorem cells4z : Tryz.prog.cellsOf 4 = 1 := by kernel_rfl
theorem cells9z : Tryz.prog.cellsOf 9 = 1 := by kernel_rfl
theorem cells23z : Tryz.prog.cellsOf 23 = 1 := by kernel_rfl
theorem cells25z : Tryz.prog.cellsOf 25 = 9 := by kernel_rfl
section
variable {Hh : Type} {enc : TypeId × Value → Hh} {W : World} {sp : Nat → Bool} {held : Bool}
theorem read_u8 {n : Nat} {cs : List Value} {x : DataW Hh × List MemPlace} (h : DataW.trod enc Tryz.prog W 0 sp held n 5 cs = some x) : ∃ a : Int, (0 ≤ a ∧ a < 256) ∧ LRel (cellsOfW W) noRho [.int .u8 a] cs := by
  obtain ⟨a, rfl, _, hw⟩ := DataW.trod_int Tryz.underlying5 h
  have := bounds_u8 hw
  refine ⟨a, by omega, ?_⟩
  unfold LRel LRel VRel
  exact ⟨_, [], rfl, rfl, rfl⟩
theorem flat_msls : ∀ l : List Int, mslsL (l.flatMap (fun n => [V.int .u8 n])) = [] ∧ refsL (l.flatMap (fun n => [V.int .u8 n])) = []
  | [] => by simp [mslsL, refsL]
  | x :: r => by
    have := flat_msls r
    rw [List.flatMap_cons]
    simp [mslsL, refsL, V.msls, V.refs, this]
/-- Bytes that are handed in. -/
theorem read_bytes {n : Nat} {cs : List Value} {x : DataW Hh × List MemPlace} (h : DataW.trod enc Tryz.prog W 0 sp held n 22 cs = some x) : ∃ (v : Value) (u : V) (L : Int), cs = [v] ∧ VRel (cellsOfW W) noRho u v ∧ lenB u = some L := by
  obtain ⟨v, u, l, rfl, hv, hok, hl, hu⟩ := read_slice Tryz.underlying22 cells5z (Nat.le_refl 1) (fun n : Int => [V.int .u8 n]) (fun _ => rfl) (fun n => 0 ≤ n ∧ n < 256) (fun n cs x hx _ => read_u8 hx) h (Nat.le_refl _)
  obtain ⟨f1, f2⟩ := flat_msls l
  rcases hu with ⟨rfl, rfl⟩ | rfl
  · exact ⟨v, _, 0, rfl, hv, rfl⟩
  · exact ⟨v, _, l.length, rfl, hv, by simp [lenB, f1, f2]⟩
theorem lrel3 {M : Mem} {ρ : Rho} {a b c : V} {x y z : Value} (h1 : VRel M ρ a x) (h2 : VRel M ρ b y) (h3 : VRel M ρ c z) : LRel M ρ [a, b, c] [x, y, z] := by
  unfold LRel LRel LRel LRel
  exact ⟨_, _, rfl, h1, _, _, rfl, h2, _, _, rfl, h3, rfl⟩
theorem lrel9 {M : Mem} {ρ : Rho} {a b c d e f g h i : V} {xa xb xc xd xe xf xg xh xi : Value} (h1 : VRel M ρ a xa) (h2 : VRel M ρ b xb) (h3 : VRel M ρ c xc) (h4 : VRel M ρ d xd) (h5 : VRel M ρ e xe) (h6 : VRel M ρ f xf) (h7 : VRel M ρ g xg) (h8 : VRel M ρ h xh) (h9 : VRel M ρ i xi) :
    LRel M ρ [a, b, c, d, e, f, g, h, i] [xa, xb, xc, xd, xe, xf, xg, xh, xi] := by
  unfold LRel LRel LRel LRel LRel LRel LRel LRel LRel LRel
  exact ⟨_, _, rfl, h1, _, _, rfl, h2, _, _, rfl, h3, _, _, rfl, h4, _, _, rfl, h5, _, _, rfl, h6, _, _, rfl, h7, _, _, rfl, h8, _, _, rfl, h9, rfl⟩
theorem some_at {α : Type} {xs : List α} {n i : Nat} (h : xs.length = n) (hi : i < n) : ∃ y, xs[i]? = some y := ⟨_, List.getElem?_eq_getElem (by omega)⟩
/-- A config that is handed in. -/
theorem read_conf {b0 : Nat} {v : Value} {d : DataW Hh} {ps : List MemPlace} (hval : Value.okWide Tryz.prog W .any b0 25 v) (hd : DataW.Trod enc Tryz.prog W 0 sp held 25 v d ps) :
    ∃ c : Cf, VRel (cellsOfW W) noRho c.v v := by
  unfold Value.okWide at hval
  rw [Tryz.underlying25] at hval
  obtain ⟨cs, rfl, hsz, _⟩ := hval
  rw [cells25z] at hsz
  obtain ⟨fuel, hd⟩ := hd
  have hcs : ((Value.agg cs).cells).toList = cs.toList := rfl
  rw [hcs] at hd
  have hl : cs.toList.length = 9 := by simpa using hsz
  match hc : cs.toList, hl with
  | [c0, c1, c2, c3, c4, c5, c6, c7, c8], _ =>
    rw [hc] at hd
    obtain ⟨xs, m, rfl, hx, _, hxl, hf⟩ := DataW.trod_struct Tryz.underlying25 hd
    have hxl' : xs.length = 9 := hxl
    have f0 : DataW.trod enc Tryz.prog W 0 sp held m 3 (([c0, c1, c2, c3, c4, c5, c6, c7, c8].drop 0).take (Tryz.prog.cellsOf 3)) = xs[0]? := hf 0 _ rfl
    rw [cells3z] at f0
    have g0 : DataW.trod enc Tryz.prog W 0 sp held m 3 [c0] = xs[0]? := f0
    clear f0
    obtain ⟨y0, e0⟩ := some_at hxl' (i := 0) (by omega)
    rw [e0] at g0
    clear e0
    have f1 : DataW.trod enc Tryz.prog W 0 sp held m 3 (([c0, c1, c2, c3, c4, c5, c6, c7, c8].drop 1).take (Tryz.prog.cellsOf 3)) = xs[1]? := hf 1 _ rfl
    rw [cells3z] at f1
    have g1 : DataW.trod enc Tryz.prog W 0 sp held m 3 [c1] = xs[1]? := f1
    clear f1
    obtain ⟨y1, e1⟩ := some_at hxl' (i := 1) (by omega)
    rw [e1] at g1
    clear e1
    have f2 : DataW.trod enc Tryz.prog W 0 sp held m 3 (([c0, c1, c2, c3, c4, c5, c6, c7, c8].drop 2).take (Tryz.prog.cellsOf 3)) = xs[2]? := hf 2 _ rfl
    rw [cells3z] at f2
    have g2 : DataW.trod enc Tryz.prog W 0 sp held m 3 [c2] = xs[2]? := f2
    clear f2
    obtain ⟨y2, e2⟩ := some_at hxl' (i := 2) (by omega)
    rw [e2] at g2
    clear e2
    have f3 : DataW.trod enc Tryz.prog W 0 sp held m 3 (([c0, c1, c2, c3, c4, c5, c6, c7, c8].drop 3).take (Tryz.prog.cellsOf 3)) = xs[3]? := hf 3 _ rfl
    rw [cells3z] at f3
    have g3 : DataW.trod enc Tryz.prog W 0 sp held m 3 [c3] = xs[3]? := f3
    clear f3
    obtain ⟨y3, e3⟩ := some_at hxl' (i := 3) (by omega)
    rw [e3] at g3
    clear e3
    have f4 : DataW.trod enc Tryz.prog W 0 sp held m 9 (([c0, c1, c2, c3, c4, c5, c6, c7, c8].drop 4).take (Tryz.prog.cellsOf 9)) = xs[4]? := hf 4 _ rfl
    rw [cells9z] at f4
    have g4 : DataW.trod enc Tryz.prog W 0 sp held m 9 [c4] = xs[4]? := f4
    clear f4
    obtain ⟨y4, e4⟩ := some_at hxl' (i := 4) (by omega)
    rw [e4] at g4
    clear e4
    have f5 : DataW.trod enc Tryz.prog W 0 sp held m 9 (([c0, c1, c2, c3, c4, c5, c6, c7, c8].drop 5).take (Tryz.prog.cellsOf 9)) = xs[5]? := hf 5 _ rfl
    rw [cells9z] at f5
    have g5 : DataW.trod enc Tryz.prog W 0 sp held m 9 [c5] = xs[5]? := f5
    clear f5
    obtain ⟨y5, e5⟩ := some_at hxl' (i := 5) (by omega)
    rw [e5] at g5
    clear e5
    have f6 : DataW.trod enc Tryz.prog W 0 sp held m 3 (([c0, c1, c2, c3, c4, c5, c6, c7, c8].drop 6).take (Tryz.prog.cellsOf 3)) = xs[6]? := hf 6 _ rfl
    rw [cells3z] at f6
    have g6 : DataW.trod enc Tryz.prog W 0 sp held m 3 [c6] = xs[6]? := f6
    clear f6
    obtain ⟨y6, e6⟩ := some_at hxl' (i := 6) (by omega)
    rw [e6] at g6
    clear e6
    have f7 : DataW.trod enc Tryz.prog W 0 sp held m 23 (([c0, c1, c2, c3, c4, c5, c6, c7, c8].drop 7).take (Tryz.prog.cellsOf 23)) = xs[7]? := hf 7 _ rfl
    rw [cells23z] at f7
    have g7 : DataW.trod enc Tryz.prog W 0 sp held m 23 [c7] = xs[7]? := f7
    clear f7
    obtain ⟨y7, e7⟩ := some_at hxl' (i := 7) (by omega)
    rw [e7] at g7
    clear e7
    have f8 : DataW.trod enc Tryz.prog W 0 sp held m 4 (([c0, c1, c2, c3, c4, c5, c6, c7, c8].drop 8).take (Tryz.prog.cellsOf 4)) = xs[8]? := hf 8 _ rfl
    rw [cells4z] at f8
    have g8 : DataW.trod enc Tryz.prog W 0 sp held m 4 [c8] = xs[8]? := f8
    clear f8
    obtain ⟨y8, e8⟩ := some_at hxl' (i := 8) (by omega)
    rw [e8] at g8
    clear e8
    obtain ⟨k0, h0, _⟩ := DataW.trod_int Tryz.underlying3 g0
    cases h0
    obtain ⟨k1, h1, _⟩ := DataW.trod_int Tryz.underlying3 g1
    cases h1
    obtain ⟨k2, h2, _⟩ := DataW.trod_int Tryz.underlying3 g2
    cases h2
    obtain ⟨k3, h3, _⟩ := DataW.trod_int Tryz.underlying3 g3
    cases h3
    obtain ⟨k4, h4, _⟩ := DataW.trod_string Tryz.underlying9 g4
    cases h4
    obtain ⟨k5, h5, _⟩ := DataW.trod_string Tryz.underlying9 g5
    cases h5
    obtain ⟨k6, h6, _⟩ := DataW.trod_int Tryz.underlying3 g6
    cases h6
    obtain ⟨k7, h7, _⟩ := DataW.trod_int Tryz.underlying23 g7
    cases h7
    obtain ⟨k8, h8, _⟩ := DataW.trod_bool Tryz.underlying4 g8
    cases h8
    refine ⟨⟨k0, k1, k2, k3, k4.data.toList, k5.data.toList, k6, k7, k8⟩, ?_⟩
    unfold Cf.v VRel
    refine ⟨cs, rfl, ?_⟩
    rw [hc]
    exact lrel9 (by unfold VRel; rfl) (by unfold VRel; rfl) (by unfold VRel; rfl) (by unfold VRel; rfl) (by unfold VRel; exact ⟨_, rfl, rfl⟩) (by unfold VRel; exact ⟨_, rfl, rfl⟩) (by unfold VRel; rfl) (by unfold VRel; rfl) (by unfold VRel; rfl)
end
end Go.Ev
