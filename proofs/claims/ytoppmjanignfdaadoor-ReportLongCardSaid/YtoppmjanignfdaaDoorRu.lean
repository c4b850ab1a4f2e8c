/- A part of the proof of ReportBack (the second form: what is handed in is of bulk at most 1048576): no statement of the seat's stands here. -/
import Derived.Test.YtoppmjanignfdaaDoorRt
set_option linter.unusedSectionVars false
set_option linter.unusedSimpArgs false
set_option linter.unusedVariables false
set_option linter.all false
set_option linter.unusedVariables false
set_option linter.unusedSimpArgs false
set_option linter.unusedSectionVars false
set_option maxRecDepth 100000
set_option maxHeartbeats 8000000
namespace Go.Ev
open Go Go.Proofs
theorem rbGo_range : ∀ (s : List UInt8) (os : List Int) (pend : Option Int) (o : List Int), rbGo s os pend = some o → (∀ x ∈ os, 0 ≤ x ∧ x < 256) → (∀ x, pend = some x → 0 ≤ x ∧ x < 256) → (∀ x ∈ o, 0 ≤ x ∧ x < 256) ∧ o.length ≤ os.length + s.length
  | [], os, none, o, h, h1, h2 => by simp [rbGo] at h; subst h; exact ⟨h1, by simp⟩
  | [], os, some x, o, h, h1, h2 => by simp [rbGo] at h
  | c :: r, os, none, o, h, h1, h2 => by
    rw [rbGo] at h
    split at h
    · cases h
    · have hd := digitV_le c.toNat
      obtain ⟨a, b⟩ := rbGo_range r os _ o h h1 (by intro x hx; cases hx; omega)
      exact ⟨a, by simp; omega⟩
  | c :: r, os, some x, o, h, h1, h2 => by
    rw [rbGo] at h
    split at h
    · cases h
    · obtain ⟨a, b⟩ := rbGo_range r _ none o h (by
        intro y hy
        rcases List.mem_append.1 hy with hy | hy
        · exact h1 y hy
        · simp at hy; omega) (by intro y hy; cases hy)
      exact ⟨a, by simp at b ⊢; omega⟩
theorem dataOf_slice {os : List Int} (h : ∀ x ∈ os, 0 ≤ x ∧ x < 256) (hl : os.length ≤ 100000000000) : dataOf (sliceB os) = some os := by
  unfold sliceB
  by_cases e : os = []
  · rw [if_pos e, e]; rfl
  · rw [if_neg e]
    show (match dataOf.intsOf (bytesI os) with | some bs => if True ∧ bs.length = os.length ∧ bs.length ≤ 100000000000 ∧ (∀ x ∈ bs, 0 ≤ x ∧ x < 256) then some bs else none | none => none) = _
    rw [intsOf_bytes]
    show (if True ∧ os.length = os.length ∧ os.length ≤ 100000000000 ∧ (∀ x ∈ os, 0 ≤ x ∧ x < 256) then some os else none) = some os
    rw [if_pos ⟨trivial, rfl, hl, h⟩]
theorem dataR_ok (w : List UInt8) (hw : w.length ≤ 1000000000) : dataOf (dataR w) = some (if w = [45] then [] else (rbGo w [] none).getD []) := by
  unfold dataR
  by_cases e : w = [45]
  · rw [if_pos e, if_pos e]; rfl
  · rw [if_neg e, if_neg e]
    cases h : rbGo w [] none with
    | none => rfl
    | some os =>
      obtain ⟨a, b⟩ := rbGo_range w [] none os h (by simp) (by simp)
      simp only [Option.getD_some]
      exact dataOf_slice a (by simp at b; omega)
theorem splitC_mem (c : UInt8) : ∀ (s x : List UInt8), x ∈ splitC c s → x.length ≤ s.length
  | [], x, h => by simp [splitC] at h; subst h; simp
  | y :: r, x, h => by
    rw [splitC] at h
    split at h
    · rcases List.mem_cons.1 h with rfl | h
      · simp
      · have := splitC_mem c r x h; simp; omega
    · cases hs : splitC c r with
      | nil => rw [hs] at h; simp at h; subst h; simp
      | cons a t =>
        rw [hs] at h
        rcases List.mem_cons.1 h with rfl | h
        · have := splitC_mem c r a (by rw [hs]; exact List.mem_cons_self); simp; omega
        · have := splitC_mem c r x (by rw [hs]; exact List.mem_cons_of_mem _ h); simp; omega
/-- How a report may grow by a line. -/
def Rl (r r' : Rep) : Prop := (r.cells ≠ [] → (r'.short = [] ↔ r.short = []) ∧ r'.cells ≠ []) ∧ (r.short ≠ [] → r'.short ≠ []) ∧ ¬ (r.short = [] ∧ r.cells = [] ∧ r'.short ≠ [] ∧ r'.cells ≠ [])
def Grow (r r' : Rep) : Prop := Rl r r' ∧ (∀ i ∈ r'.short, i.ok) ∧ r'.short.length + r'.cells.length ≤ r.short.length + r.cells.length + 1 ∧ r'.short.length ≤ r.short.length + 1 ∧ r'.cells.length ≤ r.cells.length + 1
theorem Rl.same {r r' : Rep} (h1 : r'.short = r.short) (h2 : r'.cells = r.cells) : Rl r r' := by
  unfold Rl
  rw [h1, h2]
  refine ⟨fun h => ⟨Iff.rfl, h⟩, fun h => h, ?_⟩
  rintro ⟨a, b, c, d⟩
  exact c a
theorem Grow.same {r r' : Rep} (hr : RepOk r) (h1 : r'.short = r.short) (h2 : r'.cells = r.cells) : Grow r r' :=
  ⟨Rl.same h1 h2, by rw [h1]; exact hr.1, by rw [h1, h2]; omega, by rw [h1]; omega, by rw [h2]; omega⟩
theorem go_all (m : Nat) (r : Rep) (hr : RepOk r) (i : Int) (s w : List UInt8) (ws : List (List UInt8)) (hws : ws.length ≤ 1000000000) (first : Bool) (g : List V) (hi0 : decide (i = 0) = false) (hi1 : decide (i = 1) = false) (two : Bool) (hi2 : decide (i = 2) = two) (hft : first = two) (f : FuncId) (fx : X10.ext f = none) (fm : X10.mutArgs f = false) (fw : findW w = .func (.func f) [] [])
    (r' : Rep) (b : Bool) (hcl : ∀ m, callWith X10 (evCode X10 (m + 100)) f [.ptr 0 0 0, .sl 1 ws.length (strsV ws)] (HR r) = some (.bool b, HR r')) (hg : Grow r r') : fin X10 #[.tmp 6] 20 (HR r).length (evCode X10 (m + 197) 20 (HR r).length R20 ⟨tm20 i s w ws first g, HR r⟩) = some (.bool (b && mayB r'), HR r') := by
  obtain ⟨⟨l1, l2, l3⟩, gi, _, gs, gc⟩ := hg
  have hr' : (∀ i ∈ r'.short, i.ok) ∧ r'.short.length ≤ 2000000 ∧ r'.cells.length ≤ 2000000 := ⟨gi, by have := hr.2.1; omega, by have := hr.2.2; omega⟩
  by_cases h1 : r.short = []
  · by_cases h2 : r.cells = []
    · by_cases k1 : r'.short = []
      · by_cases k2 : r'.cells = []
        · exact go_nn_nn m r hr i s w ws hws first g hi0 hi1 two hi2 hft f fx fm fw r' hr' b hcl h1 h2 k1 k2
        · exact go_nn_nc m r hr i s w ws hws first g hi0 hi1 two hi2 hft f fx fm fw r' hr' b hcl h1 h2 k1 k2
      · by_cases k2 : r'.cells = []
        · exact go_nn_sn m r hr i s w ws hws first g hi0 hi1 two hi2 hft f fx fm fw r' hr' b hcl h1 h2 k1 k2
        · exact absurd ⟨h1, h2, k1, k2⟩ l3
    · exact go_nc_nc m r hr i s w ws hws first g hi0 hi1 two hi2 hft f fx fm fw r' hr' b hcl h1 h2 ((l1 h2).1.2 h1) (l1 h2).2
  · by_cases h2 : r.cells = []
    · by_cases k2 : r'.cells = []
      · exact go_sn_sn m r hr i s w ws hws first g hi0 hi1 two hi2 hft f fx fm fw r' hr' b hcl h1 h2 (l2 h1) k2
      · exact go_sn_sc m r hr i s w ws hws first g hi0 hi1 two hi2 hft f fx fm fw r' hr' b hcl h1 h2 (l2 h1) k2
    · exact go_sc_sc m r hr i s w ws hws first g hi0 hi1 two hi2 hft f fx fm fw r' hr' b hcl h1 h2 (l2 h1) (l1 h2).2
theorem rejR_grow {r : Rep} (hr : RepOk r) (l : List (List UInt8)) : Grow r (rejR r l).2 := by
  unfold rejR
  split <;> exact Grow.same hr rfl rfl
theorem malR_grow {r : Rep} (hr : RepOk r) (l : List (List UInt8)) : Grow r (malR r l).2 := by
  unfold malR
  split <;> exact Grow.same hr rfl rfl
theorem itemR_grow {r : Rep} (hr : RepOk r) (a b c : List UInt8) (hc : c.length ≤ 1000000000) : Grow r (itemR r a b c).2 := by
  unfold itemR
  by_cases e : r.cells = []
  · rw [if_pos e]
    refine ⟨⟨fun h => absurd e h, fun _ => by simp, fun h => h.2.2.2 e⟩, ?_, by simp; omega, by simp, by simp⟩
    intro i hi
    rcases List.mem_append.1 hi with hi | hi
    · exact hr.1 i hi
    · simp only [List.mem_singleton] at hi
      subst hi
      have h := dataR_ok c hc
      unfold Itm.ok Itm.bytes
      simp only [h, Option.getD_some]
  · rw [if_neg e]; exact Grow.same hr rfl rfl
theorem cellR_grow {r : Rep} (hr : RepOk r) (a b c : List UInt8) : Grow r (cellR r a b c).2 := by
  unfold cellR
  split
  · refine ⟨⟨fun h => ⟨Iff.rfl, by simp⟩, fun h => h, fun h => h.2.2.1 h.1⟩, hr.1, by simp; omega, by simp, by simp⟩
  · exact Grow.same hr rfl rfl
theorem three_grow {r : Rep} (hr : RepOk r) {f : List UInt8 → List UInt8 → List UInt8 → Bool × Rep} {ws : List (List UInt8)} (h : ∀ a b c, ws = [a, b, c] → Grow r (f a b c).2) : Grow r (three f r ws).2 := by
  unfold three
  split
  · exact h _ _ _ rfl
  · exact Grow.same hr rfl rfl
theorem readS_grow {r : Rep} (hr : RepOk r) (two : Bool) (w : List UInt8) (ws : List (List UInt8)) (hws : ∀ x ∈ ws, x.length ≤ 1000000000) : Grow r (readS r two w ws).2 := by
  have hs : Grow r r := Grow.same hr rfl rfl
  unfold readS chk
  repeat' split
  · exact Grow.same hr rfl rfl
  · exact hs
  · exact rejR_grow hr ws
  · exact hs
  · exact malR_grow hr ws
  · exact hs
  · exact hs
  · exact three_grow hr fun a b c e => itemR_grow hr a b c (hws c (by rw [e]; simp))
  · exact hs
  · exact three_grow hr fun a b c e => cellR_grow hr a b c
  · exact hs
theorem lineS_grow {r : Rep} (hr : RepOk r) (i : Int) (s : List UInt8) (hs : s.length ≤ 1000000000) : Grow r (lineS r i s).2 := by
  have h0 : Grow r r := Grow.same hr rfl rfl
  unfold lineS
  split
  · exact h0
  · rename_i w ws e
    split
    · exact h0
    · split
      · unfold itemsR
        split
        · split
          · exact Grow.same hr rfl rfl
          · exact h0
        · exact h0
      · refine readS_grow hr _ w ws fun x hx => ?_
        have := splitC_mem 32 s x (by rw [e]; exact List.mem_cons_of_mem _ hx)
        omega
theorem c20 (m : Nat) (r : Rep) (hr : RepOk r) (i : Int) (s : List UInt8) (hs : s.length ≤ 1000000000) :
    callWith X10 (evCode X10 (m + 200)) 20 [.ptr 0 0 0, .int .i64 i, .str s] (HR r) = some (.bool (lineS r i s).1, HR (lineS r i s).2) := by
  refine top_fin (nt := 83) (res := #[.tmp 6]) rfl Tryd.func20 shape20 rfl rfl ?_
  have hne := splitC_ne 32 s
  have hlen := splitC_len 32 s
  cases hsp : splitC 32 s with
  | nil => exact absurd hsp hne
  | cons w ws =>
    obtain ⟨g, hg⟩ := pre20 m (HR r) (HR r).length i s hs w ws hsp
    refine (congrArg (fin X10 #[.tmp 6] 20 (HR r).length) hg).trans ?_
    rw [hsp] at hlen
    simp only [List.length_cons] at hlen
    have hws : ws.length ≤ 1000000000 := by omega
    have hx : ∀ x ∈ ws, x.length ≤ 1000000000 := fun x hx => by
      have := splitC_mem 32 s x (by rw [hsp]; exact List.mem_cons_of_mem _ hx)
      omega
    unfold lineS
    rw [hsp]
    simp only
    by_cases h0 : i = 0
    · rw [if_pos h0]
      exact rest0 m r hr i s w ws hws _ g (by simpa using h0)
    · rw [if_neg h0]
      have hi0 : decide (i = 0) = false := by simpa using h0
      by_cases h1 : i = 1
      · rw [if_pos h1]
        exact rest1 m r hr i s w ws hws _ g hi0 (by simpa using h1)
      · rw [if_neg h1]
        have hi1 : decide (i = 1) = false := by simpa using h1
        generalize htwo : decide (i = 2) = two
        unfold readS
        by_cases w1 : w = bAccept
        · rw [if_pos w1]
          subst w1
          cases two with
          | true => exact go_all m r hr i s _ ws hws _ g hi0 hi1 true htwo rfl 54 rfl rfl rfl { r with k := 1 } _ (fun m => c54 (m + 60) r hr ws) (Grow.same hr rfl rfl)
          | false => exact restW m r hr i s _ ws hws _ g hi0 hi1 false htwo rfl 54 rfl
        · rw [if_neg w1]
          by_cases w2 : w = bRej
          · rw [if_pos w2]
            subst w2
            cases two with
            | true => exact go_all m r hr i s _ ws hws _ g hi0 hi1 true htwo rfl 55 rfl rfl rfl _ _ (fun m => c55 (m + 40) r hr ws hws) (rejR_grow hr ws)
            | false => exact restW m r hr i s _ ws hws _ g hi0 hi1 false htwo rfl 55 rfl
          · rw [if_neg w2]
            by_cases w3 : w = bMalf
            · rw [if_pos w3]
              subst w3
              cases two with
              | true => exact go_all m r hr i s _ ws hws _ g hi0 hi1 true htwo rfl 56 rfl rfl rfl _ _ (fun m => c56 (m + 40) r hr ws hws) (malR_grow hr ws)
              | false => exact restW m r hr i s _ ws hws _ g hi0 hi1 false htwo rfl 56 rfl
            · rw [if_neg w3]
              by_cases w4 : w = bItem
              · rw [if_pos w4]
                subst w4
                cases two with
                | true => exact restW m r hr i s _ ws hws _ g hi0 hi1 true htwo rfl 57 rfl
                | false =>
                  refine go_all m r hr i s _ ws hws _ g hi0 hi1 false htwo rfl 57 rfl rfl rfl _ _ (fun m => ?_) (three_grow hr fun a b c e => itemR_grow hr a b c (hx c (by rw [e]; simp)))
                  by_cases e3 : ws.length = 3
                  · match ws, e3, hx with
                    | [a, b, c], _, hx =>
                      by_cases hc : r.cells = []
                      · exact c57y m r hr hc a b c (hx c (by simp))
                      · have : itemR r a b c = (false, r) := by unfold itemR; rw [if_neg hc]
                        have h3 : three (itemR r) r [a, b, c] = (false, r) := this
                        rw [h3]
                        exact c57c m r hr hc a b c
                  · have : three (itemR r) r ws = (false, r) := by
                      unfold three
                      split
                      · exact absurd rfl e3
                      · rfl
                    rw [this]
                    exact c57n m r hr ws e3
              · rw [if_neg w4]
                by_cases w5 : w = bCell
                · rw [if_pos w5]
                  subst w5
                  cases two with
                  | true => exact restW m r hr i s _ ws hws _ g hi0 hi1 true htwo rfl 61 rfl
                  | false =>
                    refine go_all m r hr i s _ ws hws _ g hi0 hi1 false htwo rfl 61 rfl rfl rfl _ _ (fun m => ?_) (three_grow hr fun a b c e => cellR_grow hr a b c)
                    by_cases e3 : ws.length = 3
                    · match ws, e3 with
                      | [a, b, c], _ => exact c61y m r hr a b c
                    · have : three (cellR r) r ws = (false, r) := by
                        unfold three
                        split
                        · exact absurd rfl e3
                        · rfl
                      rw [this]
                      exact c61n m r hr ws e3
                · rw [if_neg w5]
                  exact restN m r hr i s w ws hws _ g hi0 hi1 (by unfold findW; rw [if_neg w1, if_neg w2, if_neg w3, if_neg w4, if_neg w5])
end Go.Ev
