/- A part of the proof of ReportBack (the second form: what is handed in is of bulk at most 1048576): no statement of the seat's stands here. -/
import Derived.Deep.Slices
import Derived.Test.YtoppmjanignfdaaDoorRows
import Derived.Test.YtoppmjanignfdaaDoorRh
import Derived.Test.YtoppmjanignfdaaDoorEvJ
set_option linter.unusedSectionVars false
set_option linter.unusedSimpArgs false
set_option linter.unusedVariables false
set_option linter.all false
set_option linter.unusedVariables false
set_option linter.unusedSimpArgs false
set_option linter.unusedSectionVars false
set_option maxRecDepth 100000
/- What is handed in, as the evaluator's values. -/
namespace Go.Ev
open Go Go.Proofs Go.ChangeShapes Go.WideShapes Go.RowKit Go.Deep
open Go.Proofs.YtoppmjanignfdaaDoor.Rows (uptoBulk uptoBulkAll)
section
variable {Hh : Type}
theorem bulk_pos : ∀ d : DataW Hh, 1 ≤ uptoBulk d
  | .lit (.string _) => by simp [uptoBulk]
  | .lit (.bool _) => by simp [uptoBulk]
  | .lit (.int ..) => by simp [uptoBulk]
  | .lit (.float ..) => by simp [uptoBulk]
  | .lit .nil => by simp [uptoBulk]
  | .nil => by simp [uptoBulk]
  | .ptr _ => by simp [uptoBulk]
  | .slice .. => by simp [uptoBulk]
  | .agg _ => by simp [uptoBulk]
  | .iface .. => by simp [uptoBulk]
  | .map _ => by simp [uptoBulk]
  | .held _ => by simp [uptoBulk]
theorem bulk_mem : ∀ {l : List (DataW Hh)} {d : DataW Hh}, d ∈ l → uptoBulk d ≤ uptoBulkAll l
  | x :: r, d, h => by
    simp only [uptoBulkAll]
    rcases List.mem_cons.1 h with rfl | h
    · omega
    · have := bulk_mem h; omega
theorem bulk_len : ∀ l : List (DataW Hh), l.length ≤ uptoBulkAll l
  | [] => by simp [uptoBulkAll]
  | x :: r => by
    have h1 := bulk_pos x
    have h2 := bulk_len r
    simp only [uptoBulkAll, List.length_cons]
    omega
end
theorem CRel.append' {M : Mem} {ρ : Rho} : ∀ {a b : List V} {blk off : Nat}, CRel M ρ blk off a → CRel M ρ blk (off + a.length) b → CRel M ρ blk off (a ++ b)
  | [], b, blk, off, _, h => by simpa using h
  | x :: r, b, blk, off, h, h' => by
    unfold CRel at h
    rw [List.cons_append]
    unfold CRel
    refine ⟨h.1, CRel.append' h.2 ?_⟩
    rw [show off + 1 + r.length = off + (x :: r).length from by simp; omega]
    exact h'
section
variable {Hh : Type} {enc : TypeId × Value → Hh} {P : Program} {W : World} {sp : Nat → Bool} {held : Bool}
theorem cells_spot {a : Addr} {n : Nat} {cs : List Value} (h : W.cells? 0 a n = some cs) (hn : 0 < n) : a.spot = none := by
  obtain ⟨_, hl, hc⟩ := World.cells?_some h
  have h0 := hc 0 hn
  have : a.add 0 = a := by simp [Addr.add]
  rw [this] at h0
  unfold World.cell? at h0
  rw [List.getElem?_eq_getElem (by omega)] at h0
  split at h0
  · split at h0
    · cases h0
    · rename_i hs; simpa using hs
  · cases h0
theorem add_eq {a : Addr} (h : a.spot = none) (n : Nat) : a.add n = ⟨a.block, a.off + n, none⟩ := by
  unfold Addr.add
  split
  · rename_i e
    subst e
    cases a
    simp at h ⊢
    exact h
  · rfl
theorem cells_rel {ρ : Rho} {a : Addr} (hs : a.spot = none) {n : Nat} {cs : List Value} (h : W.cells? 0 a n = some cs) {vs : List V} (hr : LRel (cellsOfW W) ρ vs cs) : CRel (cellsOfW W) ρ a.block a.off vs := by
  obtain ⟨_, hl, hc⟩ := World.cells?_some h
  refine CRel.of_get fun j v hv => ?_
  obtain ⟨x, hx, hvx⟩ := hr.get hv
  have hj : j < n := by
    have := (List.getElem?_eq_some_iff.1 hx).1
    omega
  have := hc j hj
  rw [add_eq hs, hx] at this
  exact ⟨x, this, hvx⟩
theorem flat_len {α : Type} {toV : α → List V} {sz : Nat} (hlen : ∀ a, (toV a).length = sz) : ∀ l : List α, (l.flatMap toV).length = l.length * sz
  | [] => by simp
  | x :: r => by rw [List.flatMap_cons, List.length_append, hlen, flat_len hlen r, List.length_cons, Nat.add_mul]; omega
/-- A slice that is handed in, element by element. -/
theorem read_slice {t e : TypeId} (ht : P.underlying t = some (.slice e)) {sz : Nat} (hsz : P.cellsOf e = sz) (hpos : 1 ≤ sz) {α : Type} [Inhabited α] (toV : α → List V) (hlen : ∀ a, (toV a).length = sz) (Ok : α → Prop) {B : Nat}
    (elem : ∀ (n : Nat) (cs : List Value) (x : DataW Hh × List MemPlace), DataW.trod enc P W 0 sp held n e cs = some x → uptoBulk x.1 ≤ B → ∃ a, Ok a ∧ LRel (cellsOfW W) noRho (toV a) cs)
    {fuel : Nat} {cs : List Value} {x : DataW Hh × List MemPlace} (h : DataW.trod enc P W 0 sp held fuel t cs = some x) (hB : uptoBulk x.1 ≤ B) :
    ∃ (v : Value) (u : V) (l : List α), cs = [v] ∧ VRel (cellsOfW W) noRho u v ∧ (∀ a ∈ l, Ok a) ∧ l.length ≤ B ∧ ((l = [] ∧ u = .nilsl) ∨ u = .sl sz l.length (l.flatMap toV)) := by
  rcases open_slice ht h with ⟨rfl, _⟩ | ⟨a, len, cap, m, n, D, Pl, rfl, hb, hl, hm, hmm, rfl, hx⟩
  · exact ⟨_, .nilsl, [], rfl, by unfold VRel; rfl, by simp, by simp, .inl ⟨rfl, rfl⟩⟩
  · have hlm : len ≤ m := by rw [hmm]; split <;> omega
    rw [hsz] at hx
    have hD : ∀ i, i < len → uptoBulk (D i) ≤ B := fun i hi => by
      have h1 : uptoBulk (D i) ≤ uptoBulkAll ((List.range len).map D) := bulk_mem (List.mem_map.2 ⟨i, by simpa using hi, rfl⟩)
      simp only [uptoBulk] at hB
      omega
    have hlB : len ≤ B := by
      have := bulk_len ((List.range len).map D)
      simp only [List.length_map, List.length_range] at this
      simp only [uptoBulk] at hB
      omega
    obtain ⟨f, hf⟩ := choose_lt (n := len) (p := fun i a => Ok a ∧ ∃ cs', W.cells? 0 (Addr.add _ (i * sz)) sz = some cs' ∧ LRel (cellsOfW W) noRho (toV a) cs') (fun i hi => by
      obtain ⟨cs', h1, h2⟩ := hx i (by omega)
      obtain ⟨y, h3, h4⟩ := elem _ _ _ h2 (hD i hi)
      exact ⟨y, h3, cs', h1, h4⟩)
    refine ⟨_, .sl sz len (((List.range len).map f).flatMap toV), (List.range len).map f, rfl, ?_, ?_, by simpa using hlB, .inr (by simp)⟩
    · unfold VRel
      refine ⟨a, cap, rfl, hl, ?_, hpos, ?_⟩
      · rw [flat_len hlen]; simp
      · by_cases h0 : len = 0
        · exact .inl h0
        · right
          obtain ⟨_, cs0, hc0, _⟩ := hf 0 (by omega)
          rw [Nat.zero_mul, show a.add 0 = a by simp [Addr.add]] at hc0
          have hs := cells_spot hc0 (by omega)
          refine ⟨hs, ?_⟩
          have key : ∀ k, k ≤ len → CRel (cellsOfW W) noRho a.block a.off (((List.range k).map f).flatMap toV) := by
            intro k
            induction k with
            | zero => intro _; simp; unfold CRel; trivial
            | succ k ih =>
              intro hk
              rw [List.range_succ, List.map_append, List.flatMap_append]
              refine CRel.append' (ih (by omega)) ?_
              obtain ⟨_, cs', hc', hr'⟩ := hf k (by omega)
              rw [add_eq hs] at hc'
              have := cells_rel rfl hc' hr'
              have hlk : (((List.range k).map f).flatMap toV).length = k * sz := by rw [flat_len hlen]; simp
              rw [hlk]
              simpa using this
          exact key len (Nat.le_refl _)
    · intro y hy
      obtain ⟨i, hi, rfl⟩ := List.mem_map.1 hy
      exact (hf i (by simpa using hi)).1
end
theorem cells40 : Tryd.prog.cellsOf 40 = 1 := by kernel_rfl
theorem cells5' : Tryd.prog.cellsOf 5 = 1 := by kernel_rfl
theorem cells42 : Tryd.prog.cellsOf 42 = 3 := by kernel_rfl
theorem cells47 : Tryd.prog.cellsOf 47 = 3 := by kernel_rfl
theorem cells3 : Tryd.prog.cellsOf 3 = 1 := by kernel_rfl
theorem cells22 : Tryd.prog.cellsOf 22 = 1 := by kernel_rfl
theorem cells24 : Tryd.prog.cellsOf 24 = 2 := by kernel_rfl
theorem cells25 : Tryd.prog.cellsOf 25 = 1 := by kernel_rfl
theorem cells27 : Tryd.prog.cellsOf 27 = 5 := by kernel_rfl
theorem cells28 : Tryd.prog.cellsOf 28 = 1 := by kernel_rfl
theorem cells29 : Tryd.prog.cellsOf 29 = 1 := by kernel_rfl
theorem cells31 : Tryd.prog.cellsOf 31 = 8 := by kernel_rfl
section
variable {Hh : Type} {enc : TypeId × Value → Hh} {W : World} {sp : Nat → Bool} {held : Bool}
theorem bulk_part {xs : List (DataW Hh × List MemPlace)} {i : Nat} {y : DataW Hh × List MemPlace} (h : xs[i]? = some y) : uptoBulk y.1 ≤ uptoBulkAll (xs.map (·.1)) :=
  bulk_mem (List.mem_map.2 ⟨y, List.mem_of_getElem? h, rfl⟩)
theorem read_u8 {n : Nat} {cs : List Value} {x : DataW Hh × List MemPlace} (h : DataW.trod enc Tryd.prog W 0 sp held n 5 cs = some x) : ∃ a : Int, (0 ≤ a ∧ a < 256) ∧ LRel (cellsOfW W) noRho [.int .u8 a] cs := by
  obtain ⟨a, rfl, _, hw⟩ := DataW.trod_int Tryd.underlying5 h
  have := bounds_u8 hw
  refine ⟨a, by omega, ?_⟩
  unfold LRel LRel VRel
  exact ⟨_, [], rfl, rfl, rfl⟩
theorem flat_bytes (l : List Int) : l.flatMap (fun n => [V.int .u8 n]) = bytesI l := by
  induction l with
  | nil => rfl
  | cons x r ih => rw [List.flatMap_cons, ih]; rfl
/-- Bytes that are handed in. -/
theorem read_data {n : Nat} {cs : List Value} {x : DataW Hh × List MemPlace} (h : DataW.trod enc Tryd.prog W 0 sp held n 40 cs = some x) (hB : uptoBulk x.1 ≤ 1048576) : ∃ (v : Value) (u : V) (bs : List Int), cs = [v] ∧ VRel (cellsOfW W) noRho u v ∧ dataOf u = some bs := by
  obtain ⟨v, u, l, rfl, hv, hok, hl, hu⟩ := read_slice Tryd.underlying40 cells5' (Nat.le_refl 1) (fun n : Int => [V.int .u8 n]) (fun _ => rfl) (fun n => 0 ≤ n ∧ n < 256) (fun n cs x hx _ => read_u8 hx) h hB
  rw [flat_bytes] at hu
  refine ⟨v, u, l, rfl, hv, ?_⟩
  rcases hu with ⟨rfl, rfl⟩ | rfl
  · rfl
  · show (match dataOf.intsOf (bytesI l) with | some bs => if True ∧ bs.length = l.length ∧ bs.length ≤ 100000000000 ∧ (∀ x ∈ bs, 0 ≤ x ∧ x < 256) then some bs else none | none => none) = _
    rw [intsOf_bytes]
    show (if True ∧ l.length = l.length ∧ l.length ≤ 100000000000 ∧ (∀ x ∈ l, 0 ≤ x ∧ x < 256) then some l else none) = _
    rw [if_pos ⟨trivial, rfl, by omega, hok⟩]
theorem lrel3 {M : Mem} {ρ : Rho} {a b c : V} {x y z : Value} (h1 : VRel M ρ a x) (h2 : VRel M ρ b y) (h3 : VRel M ρ c z) : LRel M ρ [a, b, c] [x, y, z] := by
  unfold LRel LRel LRel LRel
  exact ⟨x, [y, z], rfl, h1, y, [z], rfl, h2, z, [], rfl, h3, rfl⟩
instance : Inhabited Itm := ⟨⟨0, 0, .nilsl⟩⟩
instance : Inhabited Cel := ⟨⟨0, 0, 0⟩⟩
theorem read_item {n : Nat} {cs : List Value} {x : DataW Hh × List MemPlace} (h : DataW.trod enc Tryd.prog W 0 sp held n 42 cs = some x) (hB : uptoBulk x.1 ≤ 1048576) : ∃ t : Itm, t.ok ∧ LRel (cellsOfW W) noRho [.int .i64 t.d, .int .i64 t.p, t.x] cs := by
  obtain ⟨xs, m, rfl, rfl, hl, hxl, hf⟩ := DataW.trod_struct Tryd.underlying42 h
  rw [cells42] at hl
  match cs, hl with
  | [c0, c1, c2], _ =>
    have h0 : DataW.trod enc Tryd.prog W 0 sp held m 3 (([c0, c1, c2].drop 0).take (Tryd.prog.cellsOf 3)) = xs[0]? := hf 0 _ rfl
    have h1 : DataW.trod enc Tryd.prog W 0 sp held m 3 (([c0, c1, c2].drop 1).take (Tryd.prog.cellsOf 3)) = xs[1]? := hf 1 _ rfl
    have h2 : DataW.trod enc Tryd.prog W 0 sp held m 40 (([c0, c1, c2].drop 2).take (Tryd.prog.cellsOf 40)) = xs[2]? := hf 2 _ rfl
    rw [cells3] at h0 h1
    rw [cells40] at h2
    have h0 : DataW.trod enc Tryd.prog W 0 sp held m 3 [c0] = xs[0]? := h0
    have h1 : DataW.trod enc Tryd.prog W 0 sp held m 3 [c1] = xs[1]? := h1
    have h2 : DataW.trod enc Tryd.prog W 0 sp held m 40 [c2] = xs[2]? := h2
    have hx0 : ∃ y, xs[0]? = some y := ⟨_, List.getElem?_eq_getElem (by rw [hxl]; decide)⟩
    have hx1 : ∃ y, xs[1]? = some y := ⟨_, List.getElem?_eq_getElem (by rw [hxl]; decide)⟩
    have hx2 : ∃ y, xs[2]? = some y := ⟨_, List.getElem?_eq_getElem (by rw [hxl]; decide)⟩
    obtain ⟨y0, e0⟩ := hx0
    obtain ⟨y1, e1⟩ := hx1
    obtain ⟨y2, e2⟩ := hx2
    rw [e0] at h0
    rw [e1] at h1
    rw [e2] at h2
    obtain ⟨d, hd, _, _⟩ := DataW.trod_int Tryd.underlying3 h0
    obtain ⟨p, hp, _, _⟩ := DataW.trod_int Tryd.underlying3 h1
    have hb := bulk_part e2
    simp only [uptoBulk] at hB
    obtain ⟨v, u, bs, hv, hr, hdat⟩ := read_data h2 (by omega)
    cases hd
    cases hp
    cases hv
    refine ⟨⟨d, p, u⟩, ?_, lrel3 (by unfold VRel; rfl) (by unfold VRel; rfl) hr⟩
    unfold Itm.ok Itm.bytes
    simp [hdat]
theorem read_cell {n : Nat} {cs : List Value} {x : DataW Hh × List MemPlace} (h : DataW.trod enc Tryd.prog W 0 sp held n 47 cs = some x) : ∃ t : Cel, LRel (cellsOfW W) noRho [.int .i64 t.p, .int .i64 t.s, .int .i64 t.e] cs := by
  obtain ⟨xs, m, rfl, rfl, hl, hxl, hf⟩ := DataW.trod_struct Tryd.underlying47 h
  rw [cells47] at hl
  match cs, hl with
  | [c0, c1, c2], _ =>
    have h0 : DataW.trod enc Tryd.prog W 0 sp held m 3 (([c0, c1, c2].drop 0).take (Tryd.prog.cellsOf 3)) = xs[0]? := hf 0 _ rfl
    have h1 : DataW.trod enc Tryd.prog W 0 sp held m 3 (([c0, c1, c2].drop 1).take (Tryd.prog.cellsOf 3)) = xs[1]? := hf 1 _ rfl
    have h2 : DataW.trod enc Tryd.prog W 0 sp held m 3 (([c0, c1, c2].drop 2).take (Tryd.prog.cellsOf 3)) = xs[2]? := hf 2 _ rfl
    rw [cells3] at h0 h1
    rw [cells3] at h2
    have h0 : DataW.trod enc Tryd.prog W 0 sp held m 3 [c0] = xs[0]? := h0
    have h1 : DataW.trod enc Tryd.prog W 0 sp held m 3 [c1] = xs[1]? := h1
    have h2 : DataW.trod enc Tryd.prog W 0 sp held m 3 [c2] = xs[2]? := h2
    obtain ⟨y0, e0⟩ : ∃ y, xs[0]? = some y := ⟨_, List.getElem?_eq_getElem (by rw [hxl]; decide)⟩
    obtain ⟨y1, e1⟩ : ∃ y, xs[1]? = some y := ⟨_, List.getElem?_eq_getElem (by rw [hxl]; decide)⟩
    obtain ⟨y2, e2⟩ : ∃ y, xs[2]? = some y := ⟨_, List.getElem?_eq_getElem (by rw [hxl]; decide)⟩
    rw [e0] at h0
    rw [e1] at h1
    rw [e2] at h2
    obtain ⟨d, hd, _, _⟩ := DataW.trod_int Tryd.underlying3 h0
    obtain ⟨p, hp, _, _⟩ := DataW.trod_int Tryd.underlying3 h1
    obtain ⟨q, hq, _, _⟩ := DataW.trod_int Tryd.underlying3 h2
    cases hd
    cases hp
    cases hq
    exact ⟨⟨d, p, q⟩, lrel3 (by unfold VRel; rfl) (by unfold VRel; rfl) (by unfold VRel; rfl)⟩
theorem flat_items (l : List Itm) : l.flatMap (fun t => [V.int .i64 t.d, V.int .i64 t.p, t.x]) = itemsV l := by
  induction l with
  | nil => rfl
  | cons x r ih => rw [List.flatMap_cons, ih]; rfl
theorem flat_cells (l : List Cel) : l.flatMap (fun t => [V.int .i64 t.p, V.int .i64 t.s, V.int .i64 t.e]) = cellsV l := by
  induction l with
  | nil => rfl
  | cons x r ih => rw [List.flatMap_cons, ih]; rfl
theorem read_items {n : Nat} {cs : List Value} {x : DataW Hh × List MemPlace} (h : DataW.trod enc Tryd.prog W 0 sp held n 28 cs = some x) (hB : uptoBulk x.1 ≤ 1048576) : ∃ (v : Value) (u : V) (l : List Itm), cs = [v] ∧ VRel (cellsOfW W) noRho u v ∧ itemsOf u = some l := by
  obtain ⟨v, u, l, rfl, hv, hok, hl, hu⟩ := read_slice Tryd.underlying28 cells42 (by decide) (fun t : Itm => [V.int .i64 t.d, V.int .i64 t.p, t.x]) (fun _ => rfl) (fun t => t.ok) (fun n cs x hx hb => read_item hx hb) h hB
  rw [flat_items] at hu
  refine ⟨v, u, l, rfl, hv, ?_⟩
  rcases hu with ⟨rfl, rfl⟩ | rfl
  · rfl
  · simp [itemsOf, slOf, parseI_items l hok]
    omega
theorem read_cells {n : Nat} {cs : List Value} {x : DataW Hh × List MemPlace} (h : DataW.trod enc Tryd.prog W 0 sp held n 29 cs = some x) (hB : uptoBulk x.1 ≤ 1048576) : ∃ (v : Value) (u : V) (l : List Cel), cs = [v] ∧ VRel (cellsOfW W) noRho u v ∧ cellsOfV u = some l := by
  obtain ⟨v, u, l, rfl, hv, hok, hl, hu⟩ := read_slice Tryd.underlying29 cells47 (by decide) (fun t : Cel => [V.int .i64 t.p, V.int .i64 t.s, V.int .i64 t.e]) (fun _ => rfl) (fun _ => True) (fun n cs x hx hb => by
    obtain ⟨t, ht⟩ := read_cell hx
    exact ⟨t, trivial, ht⟩) h hB
  rw [flat_cells] at hu
  refine ⟨v, u, l, rfl, hv, ?_⟩
  rcases hu with ⟨rfl, rfl⟩ | rfl
  · rfl
  · simp [cellsOfV, slOf, parseC_cells l]
    omega
theorem lrel8 {M : Mem} {ρ : Rho} {a b c d e f g h : V} {xa xb xc xd xe xf xg xh : Value} (h1 : VRel M ρ a xa) (h2 : VRel M ρ b xb) (h3 : VRel M ρ c xc) (h4 : VRel M ρ d xd) (h5 : VRel M ρ e xe) (h6 : VRel M ρ f xf) (h7 : VRel M ρ g xg) (h8 : VRel M ρ h xh) :
    LRel M ρ [a, b, c, d, e, f, g, h] [xa, xb, xc, xd, xe, xf, xg, xh] := by
  unfold LRel LRel LRel LRel LRel LRel LRel LRel LRel
  exact ⟨_, _, rfl, h1, _, _, rfl, h2, _, _, rfl, h3, _, _, rfl, h4, _, _, rfl, h5, _, _, rfl, h6, _, _, rfl, h7, _, _, rfl, h8, rfl⟩
theorem read_int3 {n : Nat} {c : Value} {x : DataW Hh × List MemPlace} (h : DataW.trod enc Tryd.prog W 0 sp held n 3 [c] = some x) : ∃ k : Int, VRel (cellsOfW W) noRho (.int .i64 k) c := by
  obtain ⟨k, hk, _, _⟩ := DataW.trod_int Tryd.underlying3 h
  cases hk
  exact ⟨k, by unfold VRel; rfl⟩
theorem some_at {α : Type} {xs : List α} {n i : Nat} (h : xs.length = n) (hi : i < n) : ∃ y, xs[i]? = some y := ⟨_, List.getElem?_eq_getElem (by omega)⟩
/-- A report that is handed in. -/
theorem read_report {b0 : Nat} {v : Value} {d : DataW Hh} {ps : List MemPlace} (hval : Value.okWide Tryd.prog W .any b0 31 v) (hd : DataW.Trod enc Tryd.prog W 0 sp held 31 v d ps) (hB : uptoBulk d ≤ 1048576) :
    ∃ (u : V) (r : Rep), VRel (cellsOfW W) noRho u v ∧ repOf u = some r := by
  unfold Value.okWide at hval
  rw [Tryd.underlying31] at hval
  obtain ⟨cs, rfl, hsz, _⟩ := hval
  rw [cells31] at hsz
  obtain ⟨fuel, hd⟩ := hd
  have hcs : ((Value.agg cs).cells).toList = cs.toList := rfl
  rw [hcs] at hd
  have hl : cs.toList.length = 8 := by simpa using hsz
  match hc : cs.toList, hl with
  | [c0, c1, c2, c3, c4, c5, c6, c7], _ =>
    rw [hc] at hd
    obtain ⟨xs, m, rfl, hx, _, hxl, hf⟩ := DataW.trod_struct Tryd.underlying31 hd
    simp only [Prod.mk.injEq] at hx
    obtain ⟨rfl, rfl⟩ := hx
    have f0 : DataW.trod enc Tryd.prog W 0 sp held m 27 (([c0, c1, c2, c3, c4, c5, c6, c7].drop 0).take (Tryd.prog.cellsOf 27)) = xs[0]? := hf 0 _ rfl
    have f1 : DataW.trod enc Tryd.prog W 0 sp held m 3 (([c0, c1, c2, c3, c4, c5, c6, c7].drop 5).take (Tryd.prog.cellsOf 3)) = xs[1]? := hf 1 _ rfl
    have f2 : DataW.trod enc Tryd.prog W 0 sp held m 28 (([c0, c1, c2, c3, c4, c5, c6, c7].drop 6).take (Tryd.prog.cellsOf 28)) = xs[2]? := hf 2 _ rfl
    have f3 : DataW.trod enc Tryd.prog W 0 sp held m 29 (([c0, c1, c2, c3, c4, c5, c6, c7].drop 7).take (Tryd.prog.cellsOf 29)) = xs[3]? := hf 3 _ rfl
    rw [cells27] at f0
    rw [cells3] at f1
    rw [cells28] at f2
    rw [cells29] at f3
    have f0 : DataW.trod enc Tryd.prog W 0 sp held m 27 [c0, c1, c2, c3, c4] = xs[0]? := f0
    have f1 : DataW.trod enc Tryd.prog W 0 sp held m 3 [c5] = xs[1]? := f1
    have f2 : DataW.trod enc Tryd.prog W 0 sp held m 28 [c6] = xs[2]? := f2
    have f3 : DataW.trod enc Tryd.prog W 0 sp held m 29 [c7] = xs[3]? := f3
    have hxl' : xs.length = 4 := hxl
    obtain ⟨y0, e0⟩ := some_at hxl' (i := 0) (by omega)
    obtain ⟨y1, e1⟩ := some_at hxl' (i := 1) (by omega)
    obtain ⟨y2, e2⟩ := some_at hxl' (i := 2) (by omega)
    obtain ⟨y3, e3⟩ := some_at hxl' (i := 3) (by omega)
    rw [e0] at f0
    rw [e1] at f1
    rw [e2] at f2
    rw [e3] at f3
    simp only [uptoBulk] at hB
    have b2 := bulk_part e2
    have b3 := bulk_part e3
    obtain ⟨v6, sv, l, q6, r6, i6⟩ := read_items f2 (by omega)
    obtain ⟨v7, cv, k, q7, r7, i7⟩ := read_cells f3 (by omega)
    cases q6
    cases q7
    obtain ⟨items, r5⟩ := read_int3 f1
    obtain ⟨xs', m', rfl, _, _, hxl2, hf2⟩ := DataW.trod_struct Tryd.underlying27 f0
    have g0 : DataW.trod enc Tryd.prog W 0 sp held m' 3 (([c0, c1, c2, c3, c4].drop 0).take (Tryd.prog.cellsOf 3)) = xs'[0]? := hf2 0 _ rfl
    have g1 : DataW.trod enc Tryd.prog W 0 sp held m' 3 (([c0, c1, c2, c3, c4].drop 1).take (Tryd.prog.cellsOf 3)) = xs'[1]? := hf2 1 _ rfl
    have g2 : DataW.trod enc Tryd.prog W 0 sp held m' 24 (([c0, c1, c2, c3, c4].drop 2).take (Tryd.prog.cellsOf 24)) = xs'[2]? := hf2 2 _ rfl
    have g3 : DataW.trod enc Tryd.prog W 0 sp held m' 25 (([c0, c1, c2, c3, c4].drop 4).take (Tryd.prog.cellsOf 25)) = xs'[3]? := hf2 3 _ rfl
    rw [cells3] at g0 g1
    rw [cells24] at g2
    rw [cells25] at g3
    have g0 : DataW.trod enc Tryd.prog W 0 sp held m' 3 [c0] = xs'[0]? := g0
    have g1 : DataW.trod enc Tryd.prog W 0 sp held m' 3 [c1] = xs'[1]? := g1
    have g2 : DataW.trod enc Tryd.prog W 0 sp held m' 24 [c2, c3] = xs'[2]? := g2
    have g3 : DataW.trod enc Tryd.prog W 0 sp held m' 25 [c4] = xs'[3]? := g3
    have hxl2' : xs'.length = 4 := hxl2
    obtain ⟨z0, e0'⟩ := some_at hxl2' (i := 0) (by omega)
    obtain ⟨z1, e1'⟩ := some_at hxl2' (i := 1) (by omega)
    obtain ⟨z2, e2'⟩ := some_at hxl2' (i := 2) (by omega)
    obtain ⟨z3, e3'⟩ := some_at hxl2' (i := 3) (by omega)
    rw [e0'] at g0
    rw [e1'] at g1
    rw [e2'] at g2
    rw [e3'] at g3
    have r4 : VRel (cellsOfW W) noRho .junk c4 := by
      unfold VRel
      rcases open_slice Tryd.underlying25 g3 with ⟨h, _⟩ | ⟨a, len, cap, _, _, _, _, h, _⟩
      · cases h; rfl
      · cases h; rfl
    obtain ⟨kk, r0⟩ := read_int3 g0
    obtain ⟨aa, r1⟩ := read_int3 g1
    obtain ⟨xs3, m3, rfl, _, _, hxl3, hf3⟩ := DataW.trod_struct Tryd.underlying24 g2
    have k0 : DataW.trod enc Tryd.prog W 0 sp held m3 3 (([c2, c3].drop 0).take (Tryd.prog.cellsOf 3)) = xs3[0]? := hf3 0 _ rfl
    have k1 : DataW.trod enc Tryd.prog W 0 sp held m3 22 (([c2, c3].drop 1).take (Tryd.prog.cellsOf 22)) = xs3[1]? := hf3 1 _ rfl
    rw [cells3] at k0
    rw [cells22] at k1
    have k0 : DataW.trod enc Tryd.prog W 0 sp held m3 3 [c2] = xs3[0]? := k0
    have k1 : DataW.trod enc Tryd.prog W 0 sp held m3 22 [c3] = xs3[1]? := k1
    have hxl3' : xs3.length = 2 := hxl3
    obtain ⟨t0, e0''⟩ := some_at hxl3' (i := 0) (by omega)
    obtain ⟨t1, e1''⟩ := some_at hxl3' (i := 1) (by omega)
    rw [e0''] at k0
    rw [e1''] at k1
    obtain ⟨fa, r2⟩ := read_int3 k0
    obtain ⟨fe, hfe, _, _⟩ := DataW.trod_int Tryd.underlying22 k1
    cases hfe
    refine ⟨.agg [.int .i64 kk, .int .i64 aa, .int .i64 fa, .int .i64 fe, .junk, .int .i64 items, sv, cv], ⟨kk, aa, fa, fe, items, l, k⟩, ?_, ?_⟩
    · unfold VRel
      refine ⟨cs, rfl, ?_⟩
      rw [hc]
      exact lrel8 r0 r1 r2 (by unfold VRel; rfl) r4 r5 r6 r7
    · simp [repOf, i6, i7, witOk, V.scalar, V.msls, V.refs]
end
end Go.Ev
