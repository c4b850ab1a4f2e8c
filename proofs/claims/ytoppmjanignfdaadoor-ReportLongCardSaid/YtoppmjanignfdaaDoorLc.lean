/- A part of the proof of ReportBack (the second form: what is handed in is of bulk at most 1048576): no statement of the seat's stands here. -/
import Derived.Test.YtoppmjanignfdaaDoorLb
set_option linter.unusedSectionVars false
set_option linter.unusedSimpArgs false
set_option linter.unusedVariables false
set_option linter.all false
set_option linter.unusedVariables false
set_option linter.unusedSimpArgs false
set_option linter.unusedSectionVars false
/- What is read has just this text. -/
namespace Go.Ev
open Go
theorem nums_inv : ∀ (ws : List (List UInt8)) (acc out : List Int), numsGo ws acc = some out → ∃ o, out = acc ++ o ∧ ws = o.map decS ∧ ∀ n ∈ o, 0 ≤ n ∧ n ≤ 1099511627776
  | [], acc, out, h => by simp [numsGo] at h; exact ⟨[], by simp [h], rfl, by simp⟩
  | w :: r, acc, out, h => by
    rw [numsGo] at h
    split at h
    · rename_i hc
      obtain ⟨o, e1, e2, e3⟩ := nums_inv r _ out h
      obtain ⟨d1, d2, d3⟩ := dec_num hc.1
      refine ⟨numV w :: o, by rw [e1]; simp, by rw [e2, List.map_cons, d1], ?_⟩
      intro n hn
      rcases List.mem_cons.1 hn with rfl | hn
      · exact ⟨d2, hc.2⟩
      · exact e3 n hn
    · cases h
theorem nums_inv1 {ws : List (List UInt8)} {n : Int} (h : numsGo ws [] = some [n]) : ws = [decS n] ∧ 0 ≤ n ∧ n ≤ 1099511627776 := by
  obtain ⟨o, e1, e2, e3⟩ := nums_inv ws [] _ h
  rw [List.nil_append] at e1
  subst e1
  exact ⟨e2, e3 n List.mem_cons_self⟩
theorem nums_inv2 {ws : List (List UInt8)} {n p : Int} (h : numsGo ws [] = some [n, p]) : ws = [decS n, decS p] := by
  obtain ⟨o, e1, e2, e3⟩ := nums_inv ws [] _ h
  rw [List.nil_append] at e1
  subst e1
  exact e2
theorem split_text {s w : List UInt8} {ws : List (List UInt8)} (h : splitC 32 s = w :: ws) : s = Lib.join (w :: ws) [32] := by
  rw [← h, join_split 32 _ s (Nat.le_refl _)]
theorem dirOf_inv {a : List UInt8} (h : dirOf a = 1 ∨ dirOf a = 2) : dirS (dirOf a) = a := by
  unfold dirOf idx58 idx58 idx58 at *
  by_cases h1 : a = bIn
  · rw [if_pos h1, h1]; decide
  · rw [if_neg h1] at h ⊢
    by_cases h2 : a = bOut
    · rw [if_pos h2, h2]; decide
    · rw [if_neg h2] at h; exact absurd h (by decide)
theorem dataS_dataR {c : List UInt8} (hl : c.length ≤ 1000000000) (h : dataOk c = true) (hne : c ≠ []) : dataS ((dataOf (dataR c)).getD []) = c := by
  rw [dataR_ok c hl]
  simp only [Option.getD_some]
  by_cases e : c = [45]
  · rw [if_pos e, e]; rfl
  · rw [if_neg e]
    unfold dataOk at h
    simp only [e, decide_false, Bool.false_or] at h
    obtain ⟨o, ho⟩ := Option.isSome_iff_exists.1 h
    obtain ⟨bs, e1, e2, _⟩ := hex_rb c.length c [] o (Nat.le_refl _) ho
    rw [List.nil_append] at e1
    subst e1
    rw [ho]
    simp only [Option.getD_some]
    unfold dataS
    by_cases hb : o = []
    · subst hb
      exact absurd e2 (by simpa [hexI, toBytes] using hne)
    · rw [if_neg hb]; exact e2.symm
/-- What stands ahead of a line. -/
def Pre (i : Nat) (r : Rep) (t : List UInt8) : Prop := match i with
  | 0 => t = [] ∧ r = rep0
  | 1 => t = unl [bUmp] ∧ r = rep0
  | 2 => t = unl [bUmp, bItems ++ decS r.items] ∧ r = { rep0 with items := r.items }
  | _ => t = unl (linesOf r) ∧ mayB r = true
theorem unl_snoc (ls : List (List UInt8)) (l : List UInt8) : unl (ls ++ [l]) = unl ls ++ (l ++ [10]) := by simp [unl]
theorem pre_read {r : Rep} {l w : List UInt8} {ws : List (List UInt8)} {r' : Rep} (hl : l.length ≤ 1000000000) (hsp : splitC 32 l = w :: ws) (two : Bool) (ht : two = true → r = { rep0 with items := r.items }) (h : readS r two w ws = (true, r')) :
    mayB r' = true ∧ unl (linesOf r') = (if two then unl [bUmp, bItems ++ decS r.items] else unl (linesOf r)) ++ (l ++ [10]) := by
  have hs := split_text hsp
  have hmem : ∀ x ∈ ws, x.length ≤ 1000000000 := fun x hx => by
    have := splitC_mem 32 l x (by rw [hsp]; exact List.mem_cons_of_mem _ hx)
    omega
  unfold readS at h
  have hchk : ∀ p : Bool × Rep, chk p = (true, r') → p = (true, r') ∧ mayB r' = true := by
    rintro ⟨b, q⟩ hp
    unfold chk at hp
    simp only [Prod.mk.injEq, Bool.and_eq_true] at hp
    obtain ⟨⟨h1, h2⟩, rfl⟩ := hp
    exact ⟨by rw [h1], h2⟩
  split at h
  · rename_i hw
    cases two with
    | false => simp at h
    | true =>
      rw [if_pos rfl] at h ⊢
      obtain ⟨h1, hm⟩ := hchk _ h
      simp only [Prod.mk.injEq, decide_eq_true_eq] at h1
      obtain ⟨rfl, rfl⟩ := h1
      refine ⟨hm, ?_⟩
      have hr := ht rfl
      rw [hs, hw, join_one, ← unl_snoc]
      unfold linesOf headL
      rw [hr]
      simp [rep0, toldS]
  · split at h
    · rename_i hw
      cases two with
      | false => simp at h
      | true =>
        rw [if_pos rfl] at h ⊢
        obtain ⟨h1, hm⟩ := hchk _ h
        unfold rejR at h1
        split at h1
        · rename_i n hn
          simp only [Prod.mk.injEq, true_and] at h1
          subst h1
          obtain ⟨e, _, _⟩ := nums_inv1 hn
          refine ⟨hm, ?_⟩
          have hr := ht rfl
          rw [hs, hw, e, join_cons, join_one, ← unl_snoc]
          unfold linesOf headL
          rw [hr]
          simp [rep0, toldS, bReject, bRej]
        · cases h1
    · split at h
      · rename_i hw
        cases two with
        | false => simp at h
        | true =>
          rw [if_pos rfl] at h ⊢
          obtain ⟨h1, hm⟩ := hchk _ h
          unfold malR at h1
          split at h1
          · rename_i n p hn
            simp only [Prod.mk.injEq, true_and] at h1
            subst h1
            have e := nums_inv2 hn
            refine ⟨hm, ?_⟩
            have hr := ht rfl
            rw [hs, hw, e, join_cons, join_cons, join_one, ← unl_snoc]
            unfold linesOf headL
            rw [hr]
            simp [rep0, toldS, bMal, bMalf]
          · cases h1
      · split at h
        · rename_i hw
          cases two with
          | true => simp at h
          | false =>
            rw [if_neg (by simp)] at h ⊢
            obtain ⟨h1, hm⟩ := hchk _ h
            unfold three at h1
            split at h1
            · rename_i a b c
              unfold itemR at h1
              split at h1
              · rename_i hcells
                simp only [Prod.mk.injEq, Bool.and_eq_true, Bool.not_eq_true', decide_eq_false_iff_not] at h1
                obtain ⟨⟨⟨h2, h3⟩, h4⟩, rfl⟩ := h1
                refine ⟨hm, ?_⟩
                have hma : mayItem (dirOf a) (protoN b) ((dataOf (dataR c)).getD []).length = true := by
                  unfold mayB at hm
                  simp only [Bool.and_eq_true] at hm
                  have := hm.1.2
                  rw [allItems_app] at this
                  simp only [Bool.and_eq_true] at this
                  have h5 := this.2
                  unfold allItems at h5
                  simpa [Itm.bytes] using h5
                obtain ⟨m1, m2, m3⟩ := mayItem_iff hma
                have hh := (hex_proto h2 m3).1
                have hd := dirOf_inv m1
                have hx := dataS_dataR (hmem c (by simp)) h3 h4
                have hit : itemL ⟨dirOf a, protoN b, dataR c⟩ = l := by
                  unfold itemL itemS Itm.bytes
                  simp only
                  rw [hd, hh, hx, hs, hw]
                unfold linesOf headL
                simp only [hcells, List.map_append, List.map_cons, List.map_nil, List.append_nil]
                rw [hit, ← List.append_assoc, unl_snoc]
              · cases h1
            · cases h1
        · split at h
          · rename_i hw
            cases two with
            | true => simp at h
            | false =>
              rw [if_neg (by simp)] at h ⊢
              obtain ⟨h1, hm⟩ := hchk _ h
              unfold three at h1
              split at h1
              · rename_i a b c
                unfold cellR at h1
                split at h1
                · rename_i n p hn
                  simp only [Prod.mk.injEq] at h1
                  obtain ⟨h2, rfl⟩ := h1
                  refine ⟨hm, ?_⟩
                  have hce : cellB (protoN a) n p = true := by
                    unfold mayB at hm
                    simp only [Bool.and_eq_true] at hm
                    have := hm.2
                    rw [allCells_app] at this
                    simp only [Bool.and_eq_true] at this
                    have h5 := this.2
                    unfold allCells at h5
                    simpa using h5
                  obtain ⟨m1, m2, _⟩ := cellB_iff hce
                  have hh := (hex_proto h2 m2).1
                  have e := nums_inv2 hn
                  simp only [List.cons.injEq, and_true] at e
                  have hit : cellL ⟨protoN a, n, p⟩ = l := by
                    unfold cellL
                    simp only
                    rw [hh, ← e.1, ← e.2, hs, hw]
                  unfold linesOf headL
                  simp only [List.map_append, List.map_cons, List.map_nil]
                  rw [hit, ← List.append_assoc, unl_snoc]
                · cases h1
              · cases h1
          · cases h
theorem pre_step {i : Nat} {r r' : Rep} {t l : List UInt8} (hl : l.length ≤ 1000000000) (hp : Pre i r t) (h : lineS r i l = (true, r')) : Pre (i + 1) r' (t ++ (l ++ [10])) := by
  have hne := splitC_ne 32 l
  cases hsp : splitC 32 l with
  | nil => exact absurd hsp hne
  | cons w ws =>
    rw [lineS_eq hsp] at h
    match i, hp with
    | 0, hp =>
      obtain ⟨rfl, rfl⟩ := hp
      rw [if_pos (by decide)] at h
      simp only [Prod.mk.injEq, decide_eq_true_eq] at h
      obtain ⟨rfl, rfl⟩ := h
      exact ⟨by simp [unl], rfl⟩
    | 1, hp =>
      obtain ⟨rfl, rfl⟩ := hp
      rw [if_neg (by decide), if_pos (by decide)] at h
      unfold itemsR at h
      split at h
      · rename_i n hn
        split at h
        · rename_i hw
          simp only [Prod.mk.injEq, true_and] at h
          subst h
          obtain ⟨e, _, _⟩ := nums_inv1 hn
          refine ⟨?_, rfl⟩
          rw [split_text hsp, hw, e, join_cons, join_one]
          simp [unl, bItemsW, bItems]
        · cases h
      · cases h
    | 2, hp =>
      obtain ⟨rfl, hr⟩ := hp
      rw [if_neg (by decide), if_neg (by decide)] at h
      obtain ⟨a, b⟩ := pre_read hl hsp _ (fun _ => hr) h
      exact ⟨by rw [b]; simp, a⟩
    | i + 3, hp =>
      obtain ⟨rfl, hm⟩ := hp
      rw [if_neg (by omega), if_neg (by omega)] at h
      have hd : decide (((i + 3 : Nat) : Int) = 2) = false := by simp; omega
      rw [hd] at h
      obtain ⟨a, b⟩ := pre_read hl hsp false (by simp) h
      exact ⟨by rw [b]; simp, a⟩
theorem getS_inv {s : List UInt8} (hs : s.length ≤ 1048576) : ∀ (n p i : Nat) (r : Rep), p ≤ s.length → s.length + 1 ≤ n + p → i ≤ p → (∀ t ∈ r.short, t.ok) → r.short.length + r.cells.length ≤ i → Pre i r (s.take p) →
    (∃ w, getS s n p i r = okV w ∧ mayB w = true ∧ textOf w = s ∧ RepOk w) ∨ ∃ (a : Nat) (e : Int), getS s n p i r = errV a e ∧ e ≠ 0 ∧ a ≤ s.length
  | 0, p, i, r, hp, hn, hip, hk, hl, hpre => by omega
  | n + 1, p, i, r, hp, hn, hip, hk, hl, hpre => by
    have hr : RepOk r := ⟨hk, by omega, by omega⟩
    rw [getS]
    cases hc : cutAt 10 (s.drop p) with
    | none => exact .inr ⟨s.length, 2, rfl, by decide, Nat.le_refl _⟩
    | some c =>
      obtain ⟨l, more⟩ := c
      simp only
      have he := cutAt_eq 10 _ _ hc
      simp only at he
      have hlen : (s.drop p).length = l.length + (more.length + 1) := by rw [he]; simp
      rw [List.length_drop] at hlen
      by_cases hend : 2 < i ∧ l = [101, 110, 100]
      · rw [if_pos hend]
        by_cases hlt : p + 4 < s.length
        · rw [if_pos hlt]
          exact .inr ⟨p + 4, 3, rfl, by decide, by omega⟩
        · rw [if_neg hlt]
          refine .inl ⟨r, rfl, ?_⟩
          obtain ⟨h2, rfl⟩ := hend
          have hm : more = [] := by
            have : more.length = 0 := by simp at hlen; omega
            exact List.length_eq_zero_iff.1 this
          subst hm
          obtain ⟨j, rfl⟩ : ∃ j, i = j + 3 := ⟨i - 3, by omega⟩
          obtain ⟨h3, h4⟩ := hpre
          refine ⟨h4, ?_, hr⟩
          rw [textOf_unl, unl_snoc, ← h3]
          have := List.take_append_drop p s
          rw [he] at this
          exact this
      · rw [if_neg hend]
        cases hb : (lineS r i l).1 with
        | false => exact .inr ⟨p, 3, rfl, by decide, hp⟩
        | true =>
          rw [if_pos rfl]
          obtain ⟨_, gi, gl, _, _⟩ := lineS_grow hr i l (by omega)
          have hline : lineS r i l = (true, (lineS r i l).2) := Prod.ext hb rfl
          refine getS_inv hs n _ (i + 1) _ (by omega) (by omega) (by omega) gi (by omega) ?_
          have ht : s.take (p + l.length + 1) = s.take p ++ (l ++ [10]) := by
            rw [show p + l.length + 1 = p + (l.length + 1) from by omega, List.take_add, he]
            congr 1
            have : l ++ 10 :: more = (l ++ [10]) ++ more := by simp
            rw [this]
            exact List.take_left' (by simp)
          rw [ht]
          exact pre_step (by omega) hpre hline
/-- What is read has just this text; what isn't is told with a place in it. -/
theorem get_inv (s : List UInt8) : (∃ w, getV s = okV w ∧ mayB w = true ∧ textOf w = s ∧ RepOk w) ∨ ∃ (a : Nat) (e : Int), getV s = errV a e ∧ e ≠ 0 ∧ a ≤ s.length := by
  unfold getV
  by_cases h : 1048576 < s.length
  · rw [if_pos h]
    exact .inr ⟨0, 4, rfl, by decide, Nat.zero_le _⟩
  · rw [if_neg h]
    exact getS_inv (by omega) _ 0 0 rep0 (Nat.zero_le _) (by omega) (Nat.le_refl _) (by simp [rep0]) (by simp [rep0]) ⟨by simp, rfl⟩
end Go.Ev
