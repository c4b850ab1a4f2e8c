/- A part of the proof of ReportBack (the second form: what is handed in is of bulk at most 1048576): no statement of the seat's stands here. -/
import Derived.Test.YtoppmjanignfdaaDoorLa
set_option linter.unusedSectionVars false
set_option linter.unusedSimpArgs false
set_option linter.unusedVariables false
set_option linter.all false
set_option linter.unusedVariables false
set_option linter.unusedSimpArgs false
set_option linter.unusedSectionVars false
/- What is put is read. -/
namespace Go.Ev
open Go
theorem lineS_eq {r : Rep} {i : Int} {s w : List UInt8} {ws : List (List UInt8)} (h : splitC 32 s = w :: ws) : lineS r i s = if i = 0 then (decide (s = bUmp), r) else if i = 1 then itemsR r w ws else readS r (decide (i = 2)) w ws := by
  unfold lineS; rw [h]
theorem split_words {x : List UInt8} {r : List (List UInt8)} (h : ∀ w ∈ x :: r, Clean w) : splitC 32 (Lib.join (x :: r) [32]) = x :: r :=
  split_join 32 x r fun w hw hc => (h w hw 32 hc).1 rfl
theorem verdict_mono {k a fa fe items : Int} {ns nc ns' nc' : Nat} (h : verdictB k a fa fe items ns nc = true) (h1 : ns' ≤ ns) (h2 : nc' ≤ nc) : verdictB k a fa fe items ns' nc' = true := by
  unfold verdictB at *
  split at h
  · rename_i e
    rw [if_pos e]
    simp only [Bool.and_eq_true, decide_eq_true_eq] at h ⊢
    exact ⟨h.1, by omega⟩
  · rename_i e
    rw [if_neg e]
    split at h
    · rename_i e2
      rw [if_pos e2]
      exact h
    · rename_i e2
      rw [if_neg e2]
      split at h
      · rename_i e3
        rw [if_pos e3]
        simp only [Bool.and_eq_true, decide_eq_true_eq] at h ⊢
        exact ⟨h.1, by omega⟩
      · cases h
theorem inB_iff {a b c : Int} : inB a b c = true ↔ b ≤ a ∧ a ≤ c := by simp [inB]
/- what is clean -/
theorem clean_lit (w : List UInt8) (h : w.all (fun c => c != 32 && c != 10) = true) : Clean w := by
  intro c hc
  have := List.all_eq_true.1 h c hc
  simpa using this
theorem dirS_clean (d : Int) : Clean (dirS d) := by
  unfold dirS; split
  · exact clean_lit _ (by decide)
  · exact clean_lit _ (by decide)
theorem bytes_range {t : Itm} (h : t.ok) : (∀ x ∈ t.bytes, 0 ≤ x ∧ x < 256) ∧ t.bytes.length ≤ 100000000000 := by
  refine ⟨?_, (SlOk.of_data h).2.2⟩
  unfold Itm.ok at h
  unfold dataOf at h
  split at h
  · rw [← Option.some.inj h]; simp
  · rw [← Option.some.inj h]; simp
  · split at h
    · split at h
      · rename_i hc
        rw [← Option.some.inj h]
        exact hc.2.2.2
      · cases h
    · cases h
  · cases h
theorem dataS_clean {bs : List Int} (h : ∀ x ∈ bs, 0 ≤ x ∧ x < 256) : Clean (dataS bs) := by
  unfold dataS
  split
  · exact clean_lit _ (by decide)
  · exact toHex_clean bs h
/-- An item, as it is read. -/
def normI (t : Itm) : Itm := ⟨t.d, t.p, dataR (dataS t.bytes)⟩
theorem dataR_dataS {bs : List Int} (h : ∀ x ∈ bs, 0 ≤ x ∧ x < 256) : dataR (dataS bs) = sliceB bs ∧ dataOk (dataS bs) = true ∧ dataS bs ≠ [] := by
  unfold dataS
  by_cases e : bs = []
  · rw [if_pos e, e]
    exact ⟨rfl, by decide, by simp⟩
  · rw [if_neg e]
    have h1 := rb_hex bs [] h
    rw [List.nil_append] at h1
    refine ⟨?_, ?_, fun h2 => e (toHex_nil h2)⟩
    · unfold dataR
      rw [if_neg toHex_ne, h1]
    · unfold dataOk
      rw [h1]; simp
theorem normI_bytes {t : Itm} (h : t.ok) : (normI t).bytes = t.bytes ∧ (normI t).ok := by
  obtain ⟨h1, h2⟩ := bytes_range h
  have e := (dataR_dataS h1).1
  have hd := dataOf_slice h1 h2
  unfold Itm.ok Itm.bytes normI
  simp only
  have hb : (dataOf t.x).getD [] = t.bytes := rfl
  rw [show dataR (dataS t.bytes) = sliceB t.bytes from e, hd]
  exact ⟨rfl, rfl⟩
theorem normI_may {t : Itm} (h : t.ok) : mayItem (normI t).d (normI t).p (normI t).bytes.length = mayItem t.d t.p t.bytes.length := by
  rw [(normI_bytes h).1]; rfl
def normR (r : Rep) : Rep := { r with short := r.short.map normI }
theorem mayItem_iff {d p : Int} {n : Nat} (h : mayItem d p n = true) : (d = 1 ∨ d = 2) ∧ 0 ≤ p ∧ p ≤ 65535 := by
  unfold mayItem protoB at h
  simp only [Bool.and_eq_true, Bool.or_eq_true, decide_eq_true_eq] at h
  obtain ⟨⟨h1, h2⟩, _⟩ := h
  exact ⟨h1, by omega, by omega⟩
theorem dirOf_dirS {d : Int} (h : d = 1 ∨ d = 2) : dirOf (dirS d) = d := by
  rcases h with rfl | rfl <;> decide
theorem item_line {r : Rep} {i : Int} (hi : 2 < i) (hc : r.cells = []) {t : Itm} (ht : t.ok) (hm : mayItem t.d t.p t.bytes.length = true) (hmay : mayB { r with short := r.short ++ [normI t] } = true) :
    lineS r i (itemL t) = (true, { r with short := r.short ++ [normI t] }) := by
  obtain ⟨hd, p0, p1⟩ := mayItem_iff hm
  obtain ⟨h1, h2⟩ := bytes_range ht
  obtain ⟨e1, e2, e3⟩ := dataR_dataS h1
  obtain ⟨q1, q2⟩ := proto_hex p0 p1
  unfold itemL itemS
  rw [lineS_eq (split_words (x := bItem) (r := [dirS t.d, hexS t.p, dataS t.bytes]) (by
    intro w hw
    rcases List.mem_cons.1 hw with rfl | hw
    · exact clean_lit _ (by decide)
    rcases List.mem_cons.1 hw with rfl | hw
    · exact dirS_clean _
    rcases List.mem_cons.1 hw with rfl | hw
    · exact hexS_clean _
    rcases List.mem_cons.1 hw with rfl | hw
    · exact dataS_clean h1
    · cases hw))]
  rw [if_neg (by omega), if_neg (by omega)]
  unfold readS
  rw [if_neg (by decide), if_neg (by decide), if_neg (by decide), if_pos rfl, if_neg (by simp; omega)]
  unfold three itemR
  simp only
  rw [if_pos hc, q1, e2, dirOf_dirS hd, q2]
  unfold chk
  simp only [e3, decide_false, Bool.not_false, Bool.and_true, Bool.true_and]
  have : (⟨t.d, t.p, dataR (dataS t.bytes)⟩ : Itm) = normI t := rfl
  rw [this, hmay]
theorem cellB_iff {p s e : Int} (h : cellB p s e = true) : 0 ≤ p ∧ p ≤ 65535 ∧ 0 ≤ s ∧ s ≤ 9 ∧ 1 ≤ e ∧ e ≤ 16 := by
  unfold cellB at h
  simp only [Bool.and_eq_true, Bool.or_eq_true, decide_eq_true_eq, inB_iff] at h
  omega
theorem nums_one {n : Int} (h0 : 0 ≤ n) (h1 : n ≤ 1099511627776) : numsGo [decS n] [] = some [n] := by
  obtain ⟨a, b⟩ := numOk_dec h0 (by omega)
  simp [numsGo, a, b, h1]
theorem nums_two {n p : Int} (h0 : 0 ≤ n) (h1 : n ≤ 1099511627776) (h2 : 0 ≤ p) (h3 : p ≤ 1099511627776) : numsGo [decS n, decS p] [] = some [n, p] := by
  obtain ⟨a, b⟩ := numOk_dec h0 (by omega)
  obtain ⟨c, d⟩ := numOk_dec h2 (by omega)
  simp [numsGo, a, b, c, d, h1, h3]
theorem cell_line {r : Rep} {i : Int} (hi : 2 < i) {t : Cel} (ht : cellB t.p t.s t.e = true) (hmay : mayB { r with cells := r.cells ++ [t] } = true) :
    lineS r i (cellL t) = (true, { r with cells := r.cells ++ [t] }) := by
  obtain ⟨p0, p1, s0, s1, e0, e1⟩ := cellB_iff ht
  obtain ⟨q1, q2⟩ := proto_hex p0 p1
  have hn := nums_two (n := t.s) (p := t.e) s0 (by omega) (by omega) (by omega)
  unfold cellL
  rw [lineS_eq (split_words (x := bCell) (r := [hexS t.p, decS t.s, decS t.e]) (by
    intro w hw
    rcases List.mem_cons.1 hw with rfl | hw
    · exact clean_lit _ (by decide)
    rcases List.mem_cons.1 hw with rfl | hw
    · exact hexS_clean _
    rcases List.mem_cons.1 hw with rfl | hw
    · exact decS_clean _
    rcases List.mem_cons.1 hw with rfl | hw
    · exact decS_clean _
    · cases hw))]
  rw [if_neg (by omega), if_neg (by omega)]
  unfold readS
  rw [if_neg (by decide), if_neg (by decide), if_neg (by decide), if_neg (by decide), if_pos rfl, if_neg (by simp; omega)]
  unfold three cellR
  simp only
  rw [hn]
  simp only
  rw [q1, q2]
  unfold chk
  have : (⟨t.p, t.s, t.e⟩ : Cel) = t := rfl
  simp only [this, Bool.true_and, hmay]
/- the text, line by line -/
def unl (ls : List (List UInt8)) : List UInt8 := ls.flatMap fun l => l ++ [10]
theorem join_unl : ∀ ls : List (List UInt8), Lib.join (ls ++ [[]]) [10] = unl ls
  | [] => by simp [join_one, unl]
  | [x] => by
    show Lib.join (x :: [] :: []) [10] = _
    rw [join_cons, join_one]
    simp [unl]
  | x :: y :: r => by
    show Lib.join (x :: y :: (r ++ [[]])) [10] = _
    rw [join_cons]
    have := join_unl (y :: r)
    rw [List.cons_append] at this
    rw [this]
    simp [unl]
theorem textOf_unl (r : Rep) : textOf r = unl (linesOf r ++ [bEnd]) := by
  unfold textOf
  have : linesOf r ++ [bEnd, []] = (linesOf r ++ [bEnd]) ++ [[]] := by simp
  rw [this, join_unl]
theorem unl_cons (l : List UInt8) (ls : List (List UInt8)) : unl (l :: ls) = l ++ 10 :: unl ls := by simp [unl]
theorem unl_app (a b : List (List UInt8)) : unl (a ++ b) = unl a ++ unl b := by simp [unl]
theorem getS_step {s : List UInt8} {n p i : Nat} {r r' : Rep} {l : List UInt8} {more : List UInt8} (hd : s.drop p = l ++ 10 :: more) (hl : 10 ∉ l) (he : ¬ (2 < i ∧ l = [101, 110, 100])) (hs : lineS r i l = (true, r')) :
    getS s (n + 1) p i r = getS s n (p + l.length + 1) (i + 1) r' ∧ s.drop (p + l.length + 1) = more := by
  constructor
  · rw [getS, hd, cutAt_of 10 l more hl]
    simp only
    rw [if_neg he, hs]
    simp
  · rw [show p + l.length + 1 = p + (l.length + 1) from by omega, ← List.drop_drop, hd]
    rw [← List.drop_drop, List.drop_left]
    rfl
theorem join_no10 : ∀ (ws : List (List UInt8)), (∀ w ∈ ws, Clean w) → 10 ∉ Lib.join ws [32]
  | [], _ => by simp [Lib.join, List.intercalate]
  | [x], h => by
    rw [join_one]
    exact fun hc => (h x List.mem_cons_self 10 hc).2 rfl
  | x :: y :: r, h => by
    rw [join_cons]
    intro hc
    rcases List.mem_append.1 hc with hc | hc
    · rcases List.mem_append.1 hc with hc | hc
      · exact (h x List.mem_cons_self 10 hc).2 rfl
      · simp at hc
    · exact join_no10 (y :: r) (fun w hw => h w (List.mem_cons_of_mem _ hw)) hc
end Go.Ev
set_option linter.unusedVariables false
set_option linter.unusedSimpArgs false
set_option linter.unusedSectionVars false
/- What is put is read, whole. -/
namespace Go.Ev
open Go
theorem itemL_10 {t : Itm} (h : t.ok) : 10 ∉ itemL t := by
  refine join_no10 _ fun w hw => ?_
  rcases List.mem_cons.1 hw with rfl | hw
  · exact clean_lit _ (by decide)
  rcases List.mem_cons.1 hw with rfl | hw
  · exact dirS_clean _
  rcases List.mem_cons.1 hw with rfl | hw
  · exact hexS_clean _
  rcases List.mem_cons.1 hw with rfl | hw
  · exact dataS_clean (bytes_range h).1
  · cases hw
theorem cellL_10 (t : Cel) : 10 ∉ cellL t := by
  refine join_no10 _ fun w hw => ?_
  rcases List.mem_cons.1 hw with rfl | hw
  · exact clean_lit _ (by decide)
  rcases List.mem_cons.1 hw with rfl | hw
  · exact hexS_clean _
  rcases List.mem_cons.1 hw with rfl | hw
  · exact decS_clean _
  rcases List.mem_cons.1 hw with rfl | hw
  · exact decS_clean _
  · cases hw
theorem itemL_end (t : Itm) : itemL t ≠ [101, 110, 100] := by
  unfold itemL itemS
  rw [join_cons]
  simp [bItem]
theorem cellL_end (t : Cel) : cellL t ≠ [101, 110, 100] := by
  unfold cellL
  rw [join_cons]
  simp [bCell]
theorem allItems_app (a b : List Itm) : allItems (a ++ b) = (allItems a && allItems b) := by simp [allItems]
theorem allCells_app (a b : List Cel) : allCells (a ++ b) = (allCells a && allCells b) := by simp [allCells]
theorem runItems {s : List UInt8} : ∀ (l : List Itm) (n p i : Nat) (r : Rep) (more : List UInt8), 2 < i → r.cells = [] → (∀ t ∈ l, t.ok ∧ mayItem t.d t.p t.bytes.length = true) → allItems r.short = true →
    (∀ ns, ns ≤ r.short.length + l.length → verdictB r.k r.a r.fa r.fe r.items ns 0 = true) → s.drop p = unl (l.map itemL) ++ more →
    ∃ p', getS s (n + l.length) p i r = getS s n p' (i + l.length) { r with short := r.short ++ l.map normI } ∧ s.drop p' = more
  | [], n, p, i, r, more, hi, hc, hl, ha, hv, hd => ⟨p, by simp, by simpa [unl] using hd⟩
  | t :: l, n, p, i, r, more, hi, hc, hl, ha, hv, hd => by
    obtain ⟨ht, hm⟩ := hl t List.mem_cons_self
    have hmn := normI_may ht
    have hmay : mayB { r with short := r.short ++ [normI t] } = true := by
      unfold mayB
      simp only [hc, List.length_append, List.length_cons, List.length_nil]
      rw [hv _ (by simp), allItems_app, ha]
      simp [allItems, allCells, hmn, hm]
    have hs := item_line (r := r) (i := (i : Int)) (by omega) hc ht hm hmay
    rw [List.map_cons, unl_cons, List.append_assoc] at hd
    obtain ⟨e1, e2⟩ := getS_step (n := n + l.length) (i := i) (more := unl (l.map itemL) ++ more) hd (itemL_10 ht) (fun h => itemL_end t h.2) hs
    obtain ⟨p', g1, g2⟩ := runItems l n _ (i + 1) { r with short := r.short ++ [normI t] } more (by omega) hc (fun u hu => hl u (List.mem_cons_of_mem _ hu)) (by rw [allItems_app, ha]; simp [allItems, hmn, hm])
      (fun ns hns => hv ns (by simp at hns ⊢; omega)) e2
    refine ⟨p', ?_, g2⟩
    rw [show n + (t :: l).length = n + l.length + 1 from rfl, e1, g1]
    simp only [List.append_assoc, List.map_cons, List.length_cons]
    rw [show i + 1 + l.length = i + (l.length + 1) from by omega]
    rfl
theorem runCells {s : List UInt8} : ∀ (l : List Cel) (n p i : Nat) (r : Rep) (more : List UInt8), 2 < i → (∀ t ∈ l, cellB t.p t.s t.e = true) → allItems r.short = true → allCells r.cells = true →
    (∀ nc, nc ≤ r.cells.length + l.length → verdictB r.k r.a r.fa r.fe r.items r.short.length nc = true) → s.drop p = unl (l.map cellL) ++ more →
    ∃ p', getS s (n + l.length) p i r = getS s n p' (i + l.length) { r with cells := r.cells ++ l } ∧ s.drop p' = more
  | [], n, p, i, r, more, hi, hl, ha, hb, hv, hd => ⟨p, by simp, by simpa [unl] using hd⟩
  | t :: l, n, p, i, r, more, hi, hl, ha, hb, hv, hd => by
    have ht := hl t List.mem_cons_self
    have hmay : mayB { r with cells := r.cells ++ [t] } = true := by
      unfold mayB
      simp only [List.length_append, List.length_cons, List.length_nil]
      rw [hv _ (by simp), allCells_app, ha, hb]
      simp [allCells, ht]
    have hs := cell_line (r := r) (i := (i : Int)) (by omega) ht hmay
    rw [List.map_cons, unl_cons, List.append_assoc] at hd
    obtain ⟨e1, e2⟩ := getS_step (n := n + l.length) (i := i) (more := unl (l.map cellL) ++ more) hd (cellL_10 t) (fun h => cellL_end t h.2) hs
    obtain ⟨p', g1, g2⟩ := runCells l n _ (i + 1) { r with cells := r.cells ++ [t] } more (by omega) (fun u hu => hl u (List.mem_cons_of_mem _ hu)) ha (by rw [allCells_app, hb]; simp [allCells, ht])
      (fun nc hnc => hv nc (by simp at hnc ⊢; omega)) e2
    refine ⟨p', ?_, g2⟩
    rw [show n + (t :: l).length = n + l.length + 1 from rfl, e1, g1]
    simp only [List.append_assoc, List.length_cons]
    rw [show i + 1 + l.length = i + (l.length + 1) from by omega]
    rfl
theorem getS_end {s : List UInt8} {n p i : Nat} {r : Rep} (hi : 2 < i) (hd : s.drop p = [101, 110, 100, 10]) : getS s (n + 1) p i r = okV r := by
  have hl : (s.drop p).length = 4 := by rw [hd]; rfl
  rw [List.length_drop] at hl
  have hc : cutAt 10 (s.drop p) = some ([101, 110, 100], []) := by rw [hd]; rfl
  rw [getS, hc]
  simp only
  rw [if_pos ⟨hi, trivial⟩, if_neg (by omega)]
theorem unl_len : ∀ ls : List (List UInt8), ls.length ≤ (unl ls).length
  | [] => by simp [unl]
  | x :: r => by
    have := unl_len r
    rw [unl_cons]
    simp; omega
theorem bUmp_line (r : Rep) : lineS r 0 bUmp = (true, r) := by
  rw [lineS_eq (w := [117, 109, 112, 105, 114, 101]) (ws := [[49]]) (by decide), if_pos rfl]
  simp
theorem items_line {r : Rep} {n : Int} (h0 : 0 ≤ n) (h1 : n ≤ 1099511627776) : lineS r 1 (bItems ++ decS n) = (true, { r with items := n }) := by
  have e : bItems ++ decS n = Lib.join [bItemsW, decS n] [32] := by rw [join_cons, join_one]; rfl
  rw [e, lineS_eq (split_words (x := bItemsW) (r := [decS n]) (by
    intro w hw
    rcases List.mem_cons.1 hw with rfl | hw
    · exact clean_lit _ (by decide)
    rcases List.mem_cons.1 hw with rfl | hw
    · exact decS_clean _
    · cases hw)), if_neg (by decide), if_pos rfl]
  unfold itemsR
  rw [nums_one h0 h1]
  simp
theorem told_line {r : Rep} {k a fa fe items : Int} (hv : verdictB k a fa fe items 0 0 = true) (hr : r = { rep0 with items := items }) : lineS r 2 (toldS k a fa fe) = (true, { rep0 with k := k, a := a, fa := fa, fe := fe, items := items }) ∧ 10 ∉ toldS k a fa fe := by
  have hm : ∀ k a fa fe items, verdictB k a fa fe items 0 0 = true → mayB { rep0 with k := k, a := a, fa := fa, fe := fe, items := items } = true := by
    intro k a fa fe items h
    unfold mayB
    simp [rep0, h, allItems, allCells]
  have hmay := hm _ _ _ _ _ hv
  unfold verdictB at hv
  unfold toldS
  split at hv
  · rename_i e
    rw [if_pos e]
    simp only [Bool.and_eq_true, decide_eq_true_eq] at hv
    obtain ⟨⟨⟨h1, h2, h3⟩, _⟩, _⟩ := hv
    refine ⟨?_, by decide⟩
    rw [lineS_eq (w := bAccept) (ws := []) (by decide), if_neg (by decide), if_neg (by decide)]
    unfold readS chk
    rw [if_pos rfl]
    subst e h1 h2 h3 hr
    simp only [decide_true, if_true, Bool.true_and]
    exact Prod.ext hmay rfl
  · rename_i e
    rw [if_neg e]
    split at hv
    · rename_i e2
      rw [if_pos e2]
      simp only [Bool.and_eq_true, decide_eq_true_eq, inB_iff] at hv
      obtain ⟨⟨⟨h1, h1'⟩, _⟩, h2, h3⟩ := hv
      have ew : bReject ++ decS a = Lib.join [bRej, decS a] [32] := by rw [join_cons, join_one]; rfl
      have hcl : ∀ w ∈ [bRej, decS a], Clean w := by
        intro w hw
        rcases List.mem_cons.1 hw with rfl | hw
        · exact clean_lit _ (by decide)
        rcases List.mem_cons.1 hw with rfl | hw
        · exact decS_clean _
        · cases hw
      rw [ew]
      refine ⟨?_, join_no10 _ hcl⟩
      rw [lineS_eq (split_words hcl), if_neg (by decide), if_neg (by decide)]
      unfold readS chk
      rw [if_neg (by decide), if_pos rfl]
      unfold rejR
      rw [nums_one h1 (by omega)]
      subst e2 h2 h3 hr
      simp only [decide_true, if_true, Bool.true_and]
      exact Prod.ext hmay rfl
    · rename_i e2
      rw [if_neg e2]
      split at hv
      · rename_i e3
        simp only [Bool.and_eq_true, decide_eq_true_eq, inB_iff] at hv
        obtain ⟨⟨⟨⟨h1, h2⟩, h3, h3'⟩, h4, h4'⟩, _⟩ := hv
        have ew : bMal ++ decS fa ++ [32] ++ decS fe = Lib.join [bMalf, decS fa, decS fe] [32] := by rw [join_cons, join_cons, join_one]; simp [bMal, bMalf]
        have hcl : ∀ w ∈ [bMalf, decS fa, decS fe], Clean w := by
          intro w hw
          rcases List.mem_cons.1 hw with rfl | hw
          · exact clean_lit _ (by decide)
          rcases List.mem_cons.1 hw with rfl | hw
          · exact decS_clean _
          rcases List.mem_cons.1 hw with rfl | hw
          · exact decS_clean _
          · cases hw
        rw [ew]
        refine ⟨?_, join_no10 _ hcl⟩
        rw [lineS_eq (split_words hcl), if_neg (by decide), if_neg (by decide)]
        unfold readS chk
        rw [if_neg (by decide), if_neg (by decide), if_pos rfl]
        unfold malR
        rw [nums_two h3 h3' (by omega) (by omega)]
        subst e3 h1 h2 hr
        simp only [decide_true, if_true, Bool.true_and]
        exact Prod.ext hmay rfl
      · cases hv
theorem verdict_items {k a fa fe items : Int} {ns nc : Nat} (h : verdictB k a fa fe items ns nc = true) : 0 ≤ items ∧ items ≤ 1099511627776 := by
  unfold verdictB at h
  split at h
  · simp only [Bool.and_eq_true, inB_iff] at h; omega
  · split at h
    · simp only [Bool.and_eq_true, inB_iff] at h; omega
    · split at h
      · simp only [Bool.and_eq_true, inB_iff, decide_eq_true_eq] at h; omega
      · cases h
/-- What is put is read. -/
theorem get_of_put {r : Rep} (hm : mayB r = true) (hok : ∀ t ∈ r.short, t.ok) (hl : (textOf r).length ≤ 1048576) : getV (textOf r) = okV (normR r) := by
  unfold mayB at hm
  simp only [Bool.and_eq_true] at hm
  obtain ⟨⟨hv, hi⟩, hc⟩ := hm
  have hit : ∀ t ∈ r.short, mayItem t.d t.p t.bytes.length = true := by
    unfold allItems at hi; exact List.all_eq_true.1 hi
  have hce : ∀ t ∈ r.cells, cellB t.p t.s t.e = true := by
    unfold allCells at hc; exact List.all_eq_true.1 hc
  obtain ⟨i0, i1⟩ := verdict_items hv
  have ht := textOf_unl r
  have hlen := unl_len (linesOf r ++ [bEnd])
  rw [← ht] at hlen
  have hn : (linesOf r ++ [bEnd]).length = 3 + r.short.length + r.cells.length + 1 := by simp [linesOf, headL]; omega
  rw [hn] at hlen
  unfold getV
  rw [if_neg (by omega)]
  generalize hs : textOf r = s at *
  have hd0 : s.drop 0 = bUmp ++ 10 :: (unl ((bItems ++ decS r.items) :: toldS r.k r.a r.fa r.fe :: (r.short.map itemL ++ r.cells.map cellL ++ [bEnd]))) := by
    rw [List.drop_zero, ht, ← unl_cons]
    simp [linesOf, headL]
  obtain ⟨m, hm⟩ : ∃ m, s.length + 1 = ((((m + 1) + r.cells.length) + r.short.length) + 1 + 1) + 1 := ⟨s.length + 1 - (4 + r.short.length + r.cells.length), by omega⟩
  obtain ⟨a1, a2⟩ := getS_step (n := (((m + 1) + r.cells.length) + r.short.length) + 1 + 1) (i := 0) (r := rep0) hd0 (by decide) (by omega) (bUmp_line rep0)
  have hit2 : 10 ∉ bItems ++ decS r.items := by
    intro h
    rcases List.mem_append.1 h with h | h
    · revert h; decide
    · exact (decS_clean _ _ h).2 rfl
  rw [unl_cons] at a2
  obtain ⟨b1, b2⟩ := getS_step (n := (((m + 1) + r.cells.length) + r.short.length) + 1) (i := 1) a2 hit2 (by omega) (items_line (r := rep0) i0 i1)
  obtain ⟨t1, t2⟩ := told_line (k := r.k) (a := r.a) (fa := r.fa) (fe := r.fe) (items := r.items) (verdict_mono hv (Nat.zero_le _) (Nat.zero_le _)) rfl
  rw [unl_cons] at b2
  obtain ⟨c1, c2⟩ := getS_step (n := ((m + 1) + r.cells.length) + r.short.length) (i := 2) b2 t2 (by omega) t1
  rw [unl_app, unl_app, List.append_assoc] at c2
  obtain ⟨p4, d1, d2⟩ := runItems r.short ((m + 1) + r.cells.length) _ 3 { rep0 with k := r.k, a := r.a, fa := r.fa, fe := r.fe, items := r.items } _ (by omega) rfl (fun t h => ⟨hok t h, hit t h⟩) rfl
    (fun ns hns => verdict_mono hv (by simpa [rep0] using hns) (Nat.zero_le _)) c2
  obtain ⟨p5, e1, e2⟩ := runCells r.cells (m + 1) p4 (3 + r.short.length) { rep0 with k := r.k, a := r.a, fa := r.fa, fe := r.fe, items := r.items, short := r.short.map normI } _ (by omega) hce
    (by
      unfold allItems
      rw [List.all_map, List.all_eq_true]
      intro t h
      show mayItem (normI t).d (normI t).p (normI t).bytes.length = true
      rw [normI_may (hok t h)]
      exact hit t h) rfl
    (fun nc hnc => by
      simp only [List.length_map]
      exact verdict_mono hv (Nat.le_refl _) (by simpa [rep0] using hnc)) d2
  rw [hm, a1, b1, c1]
  refine d1.trans (Eq.trans ?_ (e1.trans ?_))
  · simp [rep0]
  · rw [getS_end (by omega) (by rw [e2]; decide)]
    simp [rep0, normR]
end Go.Ev
