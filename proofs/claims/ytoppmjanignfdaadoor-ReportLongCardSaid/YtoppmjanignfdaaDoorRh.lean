/- A part of the proof of ReportBack (the second form: what is handed in is of bulk at most 1048576): no statement of the seat's stands here. -/
import Derived.Test.YtoppmjanignfdaaDoorRg
set_option linter.unusedSectionVars false
set_option linter.unusedSimpArgs false
set_option linter.unusedVariables false
set_option linter.all false
set_option linter.unusedVariables false
set_option linter.unusedSimpArgs false
set_option linter.unusedSectionVars false
set_option maxRecDepth 100000
set_option maxHeartbeats 4000000
namespace Go.Ev
open Go Go.Proofs
theorem mslsL_bytes : ∀ l : List Int, mslsL (bytesI l) = []
  | [] => by simp [bytesI, mslsL]
  | x :: r => by
    have := mslsL_bytes r
    simp only [bytesI] at this
    simp [bytesI, mslsL, V.msls, this]
theorem SlOk.of_data {x : V} {bs : List Int} (h : dataOf x = some bs) : SlOk x ∧ (lenOf x).getD 0 = bs.length ∧ bs.length ≤ 100000000000 := by
  unfold dataOf at h
  split at h
  · cases h; exact ⟨⟨rfl, by simp [V.msls], by simp [V.refs], rfl⟩, rfl, by simp⟩
  · cases h; exact ⟨⟨rfl, by simp [V.msls], by simp [V.refs], rfl⟩, rfl, by simp⟩
  · split at h
    · rename_i len cs bs' he
      split at h
      · rename_i hc
        cases h
        have e := intsOf_eq _ _ he
        subst e
        exact ⟨⟨rfl, by simp [V.msls, mslsL_bytes], by simp [V.refs, refsL_bytes], rfl⟩, hc.2.1.symm, hc.2.2.1⟩
      · cases h
    · cases h
  · cases h
structure Itm where
  d : Int
  p : Int
  x : V
def Itm.bytes (i : Itm) : List Int := (dataOf i.x).getD []
def Itm.ok (i : Itm) : Prop := dataOf i.x = some i.bytes
def itemsV : List Itm → List V
  | [] => []
  | i :: r => .int .i64 i.d :: .int .i64 i.p :: i.x :: itemsV r
def parseI : List V → Option (List Itm)
  | [] => some []
  | .int .i64 d :: .int .i64 p :: x :: r => if (dataOf x).isSome then (parseI r).map (⟨d, p, x⟩ :: ·) else none
  | _ => none
theorem parseI_eq : ∀ (n : Nat) (cs : List V) (l : List Itm), cs.length ≤ n → parseI cs = some l → cs = itemsV l ∧ ∀ i ∈ l, i.ok
  | 0, cs, l, hn, h => by
    have : cs = [] := List.length_eq_zero_iff.1 (by omega)
    subst this
    simp [parseI] at h; subst h; exact ⟨rfl, by simp⟩
  | n + 1, cs, l, hn, h => by
    unfold parseI at h
    split at h
    · cases h; exact ⟨rfl, by simp⟩
    · rename_i d p x r
      split at h
      · rename_i hx
        obtain ⟨l', h1, h2⟩ := Option.map_eq_some_iff.1 h
        subst h2
        obtain ⟨e, hk⟩ := parseI_eq n r l' (by simp at hn; omega) h1
        subst e
        refine ⟨rfl, fun i hi => ?_⟩
        rcases List.mem_cons.1 hi with rfl | hi
        · obtain ⟨bs, hb⟩ := Option.isSome_iff_exists.1 hx
          simp [Itm.ok, Itm.bytes, hb]
        · exact hk i hi
      · cases h
    · cases h
theorem parseI_items : ∀ l : List Itm, (∀ i ∈ l, i.ok) → parseI (itemsV l) = some l
  | [], _ => rfl
  | i :: r, h => by
    have hi := h i List.mem_cons_self
    simp only [itemsV, parseI]
    rw [if_pos (by rw [hi]; rfl), parseI_items r fun j hj => h j (List.mem_cons_of_mem _ hj)]
    rfl
theorem itemsV_len : ∀ l : List Itm, (itemsV l).length = 3 * l.length
  | [] => rfl
  | i :: r => by simp only [itemsV, List.length_cons, itemsV_len r]; omega
theorem itemsV_drop : ∀ (k : Nat) (l : List Itm), (itemsV l).drop (k * 3) = itemsV (l.drop k)
  | 0, l => by simp
  | k + 1, [] => by simp [itemsV]
  | k + 1, i :: r => by
    have : (k + 1) * 3 = k * 3 + 3 := by omega
    rw [this]
    simp only [itemsV, List.drop_succ_cons]
    exact itemsV_drop k r
theorem itemsV_flat : ∀ l : List Itm, (∀ i ∈ l, i.ok) → mslsL (itemsV l) = [] ∧ refsL (itemsV l) = [] ∧ (itemsV l).all V.scalar = true
  | [], _ => by simp [itemsV, mslsL, refsL]
  | i :: r, h => by
    obtain ⟨h1, h2, h3⟩ := itemsV_flat r fun j hj => h j (List.mem_cons_of_mem _ hj)
    obtain ⟨⟨a, b, c, _⟩, _⟩ := SlOk.of_data (h i List.mem_cons_self)
    simp [itemsV, mslsL, refsL, V.msls, V.refs, V.scalar, h1, h2, b, c] at *
    exact ⟨a, h3⟩
/-- A slice of a value that is handed in, as a list. -/
def slOf {α : Type} (sz : Nat) (parse : List V → Option (List α)) : V → Option (List α)
  | .nilsl => some []
  | .slz => some []
  | .sl sz' n cs => if sz' = sz then (match parse cs with
    | some l => if l.length = n ∧ 0 ≤ n ∧ n ≤ 2000000 then some l else none
    | none => none) else none
  | _ => none
theorem slOf_some {α : Type} {sz : Nat} {parse : List V → Option (List α)} {x : V} {l : List α} (h : slOf sz parse x = some l) :
    (l = [] ∧ (x = .nilsl ∨ x = .slz)) ∨ ∃ cs, x = .sl sz l.length cs ∧ parse cs = some l ∧ 0 ≤ l.length ∧ l.length ≤ 2000000 := by
  unfold slOf at h
  split at h
  · cases h; exact .inl ⟨rfl, .inl rfl⟩
  · cases h; exact .inl ⟨rfl, .inr rfl⟩
  · split at h
    · rename_i sz' n cs e
      subst e
      split at h
      · rename_i l' hp
        split at h
        · rename_i hc
          cases h
          obtain ⟨rfl, c2, c3⟩ := hc
          exact .inr ⟨cs, rfl, hp, c2, c3⟩
        · cases h
      · cases h
    · cases h
  · cases h
structure Cel where
  p : Int
  s : Int
  e : Int
def cellsV : List Cel → List V
  | [] => []
  | c :: r => .int .i64 c.p :: .int .i64 c.s :: .int .i64 c.e :: cellsV r
def parseC : List V → Option (List Cel)
  | [] => some []
  | .int .i64 p :: .int .i64 s :: .int .i64 e :: r => (parseC r).map (⟨p, s, e⟩ :: ·)
  | _ => none
theorem parseC_eq : ∀ (n : Nat) (cs : List V) (l : List Cel), cs.length ≤ n → parseC cs = some l → cs = cellsV l
  | 0, cs, l, hn, h => by
    have : cs = [] := List.length_eq_zero_iff.1 (by omega)
    subst this
    simp [parseC] at h; subst h; rfl
  | n + 1, cs, l, hn, h => by
    unfold parseC at h
    split at h
    · cases h; rfl
    · rename_i d p x r
      obtain ⟨l', h1, h2⟩ := Option.map_eq_some_iff.1 h
      subst h2
      rw [parseC_eq n r l' (by simp at hn; omega) h1]
      rfl
    · cases h
theorem parseC_cells : ∀ l : List Cel, parseC (cellsV l) = some l
  | [] => rfl
  | i :: r => by simp only [cellsV, parseC]; rw [parseC_cells r]; rfl
theorem cellsV_len : ∀ l : List Cel, (cellsV l).length = 3 * l.length
  | [] => rfl
  | i :: r => by simp only [cellsV, List.length_cons, cellsV_len r]; omega
theorem cellsV_drop : ∀ (k : Nat) (l : List Cel), (cellsV l).drop (k * 3) = cellsV (l.drop k)
  | 0, l => by simp
  | k + 1, [] => by simp [cellsV]
  | k + 1, i :: r => by
    have : (k + 1) * 3 = k * 3 + 3 := by omega
    rw [this]
    simp only [cellsV, List.drop_succ_cons]
    exact cellsV_drop k r
theorem cellsV_flat : ∀ l : List Cel, mslsL (cellsV l) = [] ∧ refsL (cellsV l) = [] ∧ (cellsV l).all V.scalar = true
  | [] => by simp [cellsV, mslsL, refsL]
  | i :: r => by
    obtain ⟨h1, h2, h3⟩ := cellsV_flat r
    simp [cellsV, mslsL, refsL, V.msls, V.refs, V.scalar, h1, h2] at *
    exact h3
def itemsOf : V → Option (List Itm) := slOf 3 parseI
def cellsOfV : V → Option (List Cel) := slOf 3 parseC
theorem itemsOf_some {x : V} {l : List Itm} (h : itemsOf x = some l) : SlOk x ∧ (lenOf x).getD 0 = l.length ∧ l.length ≤ 2000000 ∧ (∀ i ∈ l, i.ok) ∧ ((l = [] ∧ (x = .nilsl ∨ x = .slz)) ∨ (0 ≤ l.length ∧ x = .sl 3 l.length (itemsV l))) := by
  rcases slOf_some h with ⟨rfl, rfl | rfl⟩ | ⟨cs, rfl, hp, h1, h2⟩
  · exact ⟨⟨rfl, by simp [V.msls], by simp [V.refs], rfl⟩, rfl, by simp, by simp, .inl ⟨rfl, .inl rfl⟩⟩
  · exact ⟨⟨rfl, by simp [V.msls], by simp [V.refs], rfl⟩, rfl, by simp, by simp, .inl ⟨rfl, .inr rfl⟩⟩
  · obtain ⟨e, hk⟩ := parseI_eq _ _ _ (Nat.le_refl _) hp
    subst e
    obtain ⟨f1, f2, f3⟩ := itemsV_flat l hk
    exact ⟨⟨rfl, by simp [V.msls, f1], by simp [V.refs, f2], rfl⟩, rfl, h2, hk, .inr ⟨h1, rfl⟩⟩
theorem cellsOfV_some {x : V} {l : List Cel} (h : cellsOfV x = some l) : SlOk x ∧ (lenOf x).getD 0 = l.length ∧ l.length ≤ 2000000 ∧ ((l = [] ∧ (x = .nilsl ∨ x = .slz)) ∨ (0 ≤ l.length ∧ x = .sl 3 l.length (cellsV l))) := by
  rcases slOf_some h with ⟨rfl, rfl | rfl⟩ | ⟨cs, rfl, hp, h1, h2⟩
  · exact ⟨⟨rfl, by simp [V.msls], by simp [V.refs], rfl⟩, rfl, by simp, .inl ⟨rfl, .inl rfl⟩⟩
  · exact ⟨⟨rfl, by simp [V.msls], by simp [V.refs], rfl⟩, rfl, by simp, .inl ⟨rfl, .inr rfl⟩⟩
  · have e := parseC_eq _ _ _ (Nat.le_refl _) hp
    subst e
    obtain ⟨f1, f2, f3⟩ := cellsV_flat l
    exact ⟨⟨rfl, by simp [V.msls, f1], by simp [V.refs, f2], rfl⟩, rfl, h2, .inr ⟨h1, rfl⟩⟩
end Go.Ev
set_option linter.unusedVariables false
set_option linter.unusedSimpArgs false
set_option linter.unusedSectionVars false
set_option maxRecDepth 100000
set_option maxHeartbeats 4000000
namespace Go.Ev
open Go Go.Proofs

/- slices.IndexFunc over items -/
noncomputable def B44 : Code := Tryd.f44.body.getD .skip
noncomputable def L44 : Code := cfst (cfst (csnd (cfst (csnd B44))))
noncomputable def R44 : Code := csnd (csnd B44)
theorem shape44 : Tryd.f44.body = some (.seq (cfst B44) (.seq (.seq (cfst (cfst (csnd B44))) (.block 0 (.loop L44))) R44)) := by kernel_rfl
def S44 (x : V) (n i : Nat) : St := ⟨[x, .func (.func 28) [] [], .dead, .dead, .dead, .dead, x, .int .i64 n, .int .i64 i] ++ List.replicate 10 .dead, []⟩
section
variable {X : Ctx} [h : Low X]
theorem clears44 : clears (X.keepSlots 44) L44 = [18, 4, 17, 16, 15, 14, 13, 12, 11, 5, 10, 9] := by
  rw [Prg.l]; kernel_rfl
noncomputable def K44 (X : Ctx) (q : Nat) (o : Option (Ex × St)) : Option (V × Heap) := fin X #[.tmp 4] 44 0 (thenK X (q + 20) 44 0 R44 (blockK 0 o))
theorem end44 (q m : Nat) (x : V) (n : Nat) : lastK (K44 X q) (evCode X (m + 50) 44 0 L44 (S44 x n n)) = some (.int .i64 (-1), []) := by
  simp -implicitDefEqProofs [run_seq, run_then, run_then_ret, run_then_exit, run_region, run_regionK, run_cond, run_cond_true, run_cond_false, run_block, run_block_exit, run_block_ret, run_block_normal, evCode_exit, evCode_ret, evCode_skip, evRegion_seq, run_seqs, run_seqK, evSeq_zero, run_step, run_stepO, run_stepK_true, run_stepK_false, run_stepR, wantedV, evOp, evOpR, opd, putTm, putAll, ofValue, ofScalar, binV, intOp, unV, und_p, size_p, bytesOf_p, zeroV_p, aggT_p, size3, size5, size9, size22, size24, size25, size27, size28, size29, size31, size40, size42, size47, agg3, agg5, agg9, agg22, agg24, agg25, agg27, agg28, agg29, agg31, agg40, agg42, agg47, bytesOf3, bytesOf5, bytesOf9, bytesOf42, bytesOf47, zeroV3, zeroV5, zeroV9, zeroV24, zeroV27, zeroV31, zeroV42, zeroV47, Tryd.underlying3, Tryd.underlying5, Tryd.underlying9, Tryd.underlying22, Tryd.underlying24, Tryd.underlying27, Tryd.underlying28, Tryd.underlying29, Tryd.underlying31, Tryd.underlying40, Tryd.underlying42, Tryd.underlying47, Tryd.underlying51, Tryd.underlying61, Tryd.underlying78, wrapI64, builtinV, convV, len9, len_nil, len_slz, len_sl, len_msl, slT, minV, asI, asN, ce_int, ce_str, ce_bool, ce_agg, ce_msl, ce_sl, ce_nilsl, sc_int, sc_str, sc_bool, sc_msl, sc_sl, sc_nilsl, sc_slz, fillV, splice, Heap.put, Heap.get, appendV, srcCells, cellsOf, rowOf, zerosT, isIntT, isStr, maxBytes, indexAddrV, fieldAddrV, fieldOf, sliceV, storeAt, cellsAt, takeV, partV, nextV, strOp, cfst, csnd, mapHd_some, hdS_mk, canonK_some, reach_nil, reach_cons, reachGo, clearTm, refsL, V.refs, Blk.refs, renL, V.ren, Blk.ren, indexOf, subHeap, resultsR, leaveR_some, lastK_ret, lastK_exit, fin_ret, fin_normal, leave_int, leave_bool, leave_str, run_callV, ext_p, XR_x, mut_p, callA_tuple, callB_some, callC_some, resolve_go, resolveK_nil, resolveK_cons, mergeAt, freezeRows, freezeRow, V.msls, mslsL, V.deep, deepL, V.resolve1, V.flat, flatL, c17, c34, c47, c71, evRegion_draw, drawK_some, run_cons, run_traceK, run_trace, run_trace0, run_traceN, run_traceC, K44, L44, R44, B44, Tryd.f44, S44]
def idx44 : List Itm → Nat → Int
  | [], _ => -1
  | t :: r, i => if mayItem t.d t.p t.bytes.length = true then idx44 r (i + 1) else i
theorem round44 (l : List Itm) (hl : l.length ≤ 2000000) (hk : ∀ i ∈ l, i.ok) (i : Nat) (hi : i < l.length) :
    (∀ m, mayItem l[i].d l[i].p l[i].bytes.length = true → mapHd [18, 4, 17, 16, 15, 14, 13, 12, 11, 5, 10, 9] (evCode X (m + 50) 44 0 L44 (S44 (.sl 3 l.length (itemsV l)) l.length i)) = some (.normal, S44 (.sl 3 l.length (itemsV l)) l.length (i + 1))) ∧
    (∀ q m, mayItem l[i].d l[i].p l[i].bytes.length = false → lastK (K44 X q) (evCode X (m + 50) 44 0 L44 (S44 (.sl 3 l.length (itemsV l)) l.length i)) = some (.int .i64 i, [])) := by
  have hok := hk _ (List.getElem_mem hi)
  obtain ⟨hs, hlen, hb⟩ := SlOk.of_data hok
  have hs' := hs
  obtain ⟨s1, s2, s3, s4⟩ := hs'
  have hd : l.drop i = l[i] :: l.drop (i + 1) := List.drop_eq_getElem_cons hi
  have hx : (itemsV l).drop (i * 3) = .int .i64 l[i].d :: .int .i64 l[i].p :: l[i].x :: itemsV (l.drop (i + 1)) := by rw [itemsV_drop, hd]; rfl
  have hc := fun m => c28 (X := X) m l[i].d l[i].p l[i].x hs
  rw [hlen] at hc
  have hr : ∀ f, l[i].x.ren f = l[i].x := fun f => ren_id f _ s3
  have hi' : (i : Int) < l.length := by omega
  obtain ⟨f1, f2, f3⟩ := itemsV_flat l hk
  have hw : IntKind.i64.wrap ((i : Int) + 1) = ((i + 1 : Nat) : Int) := by rw [wrapI64 (by omega) (by omega)]; rfl
  constructor
  · intro m hm
    simp -implicitDefEqProofs [run_seq, run_then, run_then_ret, run_then_exit, run_region, run_regionK, run_cond, run_cond_true, run_cond_false, run_block, run_block_exit, run_block_ret, run_block_normal, evCode_exit, evCode_ret, evCode_skip, evRegion_seq, run_seqs, run_seqK, evSeq_zero, run_step, run_stepO, run_stepK_true, run_stepK_false, run_stepR, wantedV, evOp, evOpR, opd, putTm, putAll, ofValue, ofScalar, binV, intOp, unV, und_p, size_p, bytesOf_p, zeroV_p, aggT_p, size3, size5, size9, size22, size24, size25, size27, size28, size29, size31, size40, size42, size47, agg3, agg5, agg9, agg22, agg24, agg25, agg27, agg28, agg29, agg31, agg40, agg42, agg47, bytesOf3, bytesOf5, bytesOf9, bytesOf42, bytesOf47, zeroV3, zeroV5, zeroV9, zeroV24, zeroV27, zeroV31, zeroV42, zeroV47, Tryd.underlying3, Tryd.underlying5, Tryd.underlying9, Tryd.underlying22, Tryd.underlying24, Tryd.underlying27, Tryd.underlying28, Tryd.underlying29, Tryd.underlying31, Tryd.underlying40, Tryd.underlying42, Tryd.underlying47, Tryd.underlying51, Tryd.underlying61, Tryd.underlying78, wrapI64, builtinV, convV, len9, len_nil, len_slz, len_sl, len_msl, slT, minV, asI, asN, ce_int, ce_str, ce_bool, ce_agg, ce_msl, ce_sl, ce_nilsl, sc_int, sc_str, sc_bool, sc_msl, sc_sl, sc_nilsl, sc_slz, fillV, splice, Heap.put, Heap.get, appendV, srcCells, cellsOf, rowOf, zerosT, isIntT, isStr, maxBytes, indexAddrV, fieldAddrV, fieldOf, sliceV, storeAt, cellsAt, takeV, partV, nextV, strOp, cfst, csnd, mapHd_some, hdS_mk, canonK_some, reach_nil, reach_cons, reachGo, clearTm, refsL, V.refs, Blk.refs, renL, V.ren, Blk.ren, indexOf, subHeap, resultsR, leaveR_some, lastK_ret, lastK_exit, fin_ret, fin_normal, leave_int, leave_bool, leave_str, run_callV, ext_p, XR_x, mut_p, callA_tuple, callB_some, callC_some, resolve_go, resolveK_nil, resolveK_cons, mergeAt, freezeRows, freezeRow, V.msls, mslsL, V.deep, deepL, V.resolve1, V.flat, flatL, c17, c34, c47, c71, evRegion_draw, drawK_some, run_cons, run_traceK, run_trace, run_trace0, run_traceN, run_traceC, L44, B44, Tryd.f44, S44, hi, hi', hx, hc, hm, s1, s2, s3, hr, hw, f2]
  · intro q m hm
    simp -implicitDefEqProofs [run_seq, run_then, run_then_ret, run_then_exit, run_region, run_regionK, run_cond, run_cond_true, run_cond_false, run_block, run_block_exit, run_block_ret, run_block_normal, evCode_exit, evCode_ret, evCode_skip, evRegion_seq, run_seqs, run_seqK, evSeq_zero, run_step, run_stepO, run_stepK_true, run_stepK_false, run_stepR, wantedV, evOp, evOpR, opd, putTm, putAll, ofValue, ofScalar, binV, intOp, unV, und_p, size_p, bytesOf_p, zeroV_p, aggT_p, size3, size5, size9, size22, size24, size25, size27, size28, size29, size31, size40, size42, size47, agg3, agg5, agg9, agg22, agg24, agg25, agg27, agg28, agg29, agg31, agg40, agg42, agg47, bytesOf3, bytesOf5, bytesOf9, bytesOf42, bytesOf47, zeroV3, zeroV5, zeroV9, zeroV24, zeroV27, zeroV31, zeroV42, zeroV47, Tryd.underlying3, Tryd.underlying5, Tryd.underlying9, Tryd.underlying22, Tryd.underlying24, Tryd.underlying27, Tryd.underlying28, Tryd.underlying29, Tryd.underlying31, Tryd.underlying40, Tryd.underlying42, Tryd.underlying47, Tryd.underlying51, Tryd.underlying61, Tryd.underlying78, wrapI64, builtinV, convV, len9, len_nil, len_slz, len_sl, len_msl, slT, minV, asI, asN, ce_int, ce_str, ce_bool, ce_agg, ce_msl, ce_sl, ce_nilsl, sc_int, sc_str, sc_bool, sc_msl, sc_sl, sc_nilsl, sc_slz, fillV, splice, Heap.put, Heap.get, appendV, srcCells, cellsOf, rowOf, zerosT, isIntT, isStr, maxBytes, indexAddrV, fieldAddrV, fieldOf, sliceV, storeAt, cellsAt, takeV, partV, nextV, strOp, cfst, csnd, mapHd_some, hdS_mk, canonK_some, reach_nil, reach_cons, reachGo, clearTm, refsL, V.refs, Blk.refs, renL, V.ren, Blk.ren, indexOf, subHeap, resultsR, leaveR_some, lastK_ret, lastK_exit, fin_ret, fin_normal, leave_int, leave_bool, leave_str, run_callV, ext_p, XR_x, mut_p, callA_tuple, callB_some, callC_some, resolve_go, resolveK_nil, resolveK_cons, mergeAt, freezeRows, freezeRow, V.msls, mslsL, V.deep, deepL, V.resolve1, V.flat, flatL, c17, c34, c47, c71, evRegion_draw, drawK_some, run_cons, run_traceK, run_trace, run_trace0, run_traceN, run_traceC, K44, R44, L44, B44, Tryd.f44, S44, hi, hi', hx, hc, hm, s1, s2, s3, hr, hw, f2]
theorem loop44 (q : Nat) (l : List Itm) (hl : l.length ≤ 2000000) (hk : ∀ i ∈ l, i.ok) (x : V) (hx : (l = [] ∧ (x = .nilsl ∨ x = .slz)) ∨ (0 ≤ l.length ∧ x = .sl 3 l.length (itemsV l))) (st : St) (hs : hdS [18, 4, 17, 16, 15, 14, 13, 12, 11, 5, 10, 9] st = S44 x l.length 0) :
    K44 X q (evCode X (l.length + 50 + 1) 44 0 (.loop L44) st) = some (.int .i64 (idx44 l 0), []) := by
  refine loop_run (clears44 (X := X)) (S44 x l.length) (fun a => a ≤ l.length) (fun a => l.length - a) (fun a => (.int .i64 (idx44 (l.drop a) a), [])) (K44 X q) 50 ?_ l.length 0 st (by simp) (by simp) hs
  intro i hi
  by_cases he : i = l.length
  · right
    subst he
    intro m
    rw [end44]
    simp [idx44]
  · have hil : i < l.length := by omega
    have hd : l.drop i = l[i] :: l.drop (i + 1) := List.drop_eq_getElem_cons hil
    have hx' : x = .sl 3 l.length (itemsV l) := by
      rcases hx with ⟨e, _⟩ | ⟨_, e⟩
      · rw [e] at hil; simp at hil
      · exact e
    have hr := round44 (X := X) l hl hk i hil
    subst hx'
    rw [hd, idx44]
    by_cases hb : mayItem l[i].d l[i].p l[i].bytes.length = true
    · left
      refine ⟨i + 1, by omega, by omega, by rw [if_pos hb], fun m => hr.1 m hb⟩
    · right
      intro m
      rw [if_neg hb]
      exact hr.2 q m (by simpa using hb)
theorem start44 (x : V) (hm : x.refs = []) (n : Nat) : hdS [18, 4, 17, 16, 15, 14, 13, 12, 11, 5, 10, 9] ⟨[x, .func (.func 28) [] [], .dead, .dead, .int .i64 0, .dead, x, .int .i64 n, .int .i64 0, .dead, .dead, .dead, .dead, .dead, .dead, .dead, .dead, .dead, .dead], []⟩ = S44 x n 0 := by
  simp -implicitDefEqProofs [mapHd_some, hdS_mk, canonK_some, reach_nil, reach_cons, reachGo, clearTm, refsL, V.refs, Blk.refs, renL, V.ren, Blk.ren, indexOf, subHeap, S44, hm]
theorem ev44 (hs : X.spec 44 = none) (x : V) (l : List Itm) (hx : itemsOf x = some l) : evCall X (l.length + 55) 44 [x, .func (.func 28) [] []] [] = some (.int .i64 (idx44 l 0), []) := by
  refine call_fin (nt := 19) (res := #[.tmp 4]) hs (fn_p Tryd.func44) shape44 rfl rfl ?_
  obtain ⟨h1, h2, h3, h4, h5⟩ := itemsOf_some hx
  have hn := h1.len (X := X) (t := 28) Tryd.underlying28
  rw [h2] at hn
  obtain ⟨s1, s2, s3, s4⟩ := h1
  have hh := loop44 (X := X) (l.length + 33) l h3 h4 x h5 _ (start44 x s3 l.length)
  unfold K44 at hh
  generalize fin X #[.tmp 4] 44 0 = G at hh ⊢
  refine Eq.trans (congrArg G ?_) hh
  simp -implicitDefEqProofs [run_seq, run_then, run_then_ret, run_then_exit, run_region, run_regionK, run_cond, run_cond_true, run_cond_false, run_block, run_block_exit, run_block_ret, run_block_normal, evCode_exit, evCode_ret, evCode_skip, evRegion_seq, run_seqs, run_seqK, evSeq_zero, run_step, run_stepO, run_stepK_true, run_stepK_false, run_stepR, wantedV, evOp, evOpR, opd, putTm, putAll, ofValue, ofScalar, binV, intOp, unV, und_p, size_p, bytesOf_p, zeroV_p, aggT_p, size3, size5, size9, size22, size24, size25, size27, size28, size29, size31, size40, size42, size47, agg3, agg5, agg9, agg22, agg24, agg25, agg27, agg28, agg29, agg31, agg40, agg42, agg47, bytesOf3, bytesOf5, bytesOf9, bytesOf42, bytesOf47, zeroV3, zeroV5, zeroV9, zeroV24, zeroV27, zeroV31, zeroV42, zeroV47, Tryd.underlying3, Tryd.underlying5, Tryd.underlying9, Tryd.underlying22, Tryd.underlying24, Tryd.underlying27, Tryd.underlying28, Tryd.underlying29, Tryd.underlying31, Tryd.underlying40, Tryd.underlying42, Tryd.underlying47, Tryd.underlying51, Tryd.underlying61, Tryd.underlying78, wrapI64, builtinV, convV, len9, len_nil, len_slz, len_sl, len_msl, slT, minV, asI, asN, ce_int, ce_str, ce_bool, ce_agg, ce_msl, ce_sl, ce_nilsl, sc_int, sc_str, sc_bool, sc_msl, sc_sl, sc_nilsl, sc_slz, fillV, splice, Heap.put, Heap.get, appendV, srcCells, cellsOf, rowOf, zerosT, isIntT, isStr, maxBytes, indexAddrV, fieldAddrV, fieldOf, sliceV, storeAt, cellsAt, takeV, partV, nextV, strOp, cfst, csnd, mapHd_some, hdS_mk, canonK_some, reach_nil, reach_cons, reachGo, clearTm, refsL, V.refs, Blk.refs, renL, V.ren, Blk.ren, indexOf, subHeap, resultsR, leaveR_some, lastK_ret, lastK_exit, fin_ret, fin_normal, leave_int, leave_bool, leave_str, run_callV, ext_p, XR_x, mut_p, callA_tuple, callB_some, callC_some, resolve_go, resolveK_nil, resolveK_cons, mergeAt, freezeRows, freezeRow, V.msls, mslsL, V.deep, deepL, V.resolve1, V.flat, flatL, c17, c34, c47, c71, evRegion_draw, drawK_some, run_cons, run_traceK, run_trace, run_trace0, run_traceN, run_traceC, B44, Tryd.f44, hn]
end

/- slices.IndexFunc over cells -/
noncomputable def B46 : Code := Tryd.f46.body.getD .skip
noncomputable def L46 : Code := cfst (cfst (csnd (cfst (csnd B46))))
noncomputable def R46 : Code := csnd (csnd B46)
theorem shape46 : Tryd.f46.body = some (.seq (cfst B46) (.seq (.seq (cfst (cfst (csnd B46))) (.block 0 (.loop L46))) R46)) := by kernel_rfl
def S46 (x : V) (n i : Nat) : St := ⟨[x, .func (.func 31) [] [], .dead, .dead, .dead, .dead, x, .int .i64 n, .int .i64 i] ++ List.replicate 10 .dead, []⟩
section
variable {X : Ctx} [h : Low X]
theorem clears46 : clears (X.keepSlots 46) L46 = [18, 4, 17, 16, 15, 14, 13, 12, 11, 5, 10, 9] := by
  rw [Prg.l]; kernel_rfl
noncomputable def K46 (X : Ctx) (q : Nat) (o : Option (Ex × St)) : Option (V × Heap) := fin X #[.tmp 4] 46 0 (thenK X (q + 20) 46 0 R46 (blockK 0 o))
theorem end46 (q m : Nat) (x : V) (n : Nat) : lastK (K46 X q) (evCode X (m + 50) 46 0 L46 (S46 x n n)) = some (.int .i64 (-1), []) := by
  simp -implicitDefEqProofs [run_seq, run_then, run_then_ret, run_then_exit, run_region, run_regionK, run_cond, run_cond_true, run_cond_false, run_block, run_block_exit, run_block_ret, run_block_normal, evCode_exit, evCode_ret, evCode_skip, evRegion_seq, run_seqs, run_seqK, evSeq_zero, run_step, run_stepO, run_stepK_true, run_stepK_false, run_stepR, wantedV, evOp, evOpR, opd, putTm, putAll, ofValue, ofScalar, binV, intOp, unV, und_p, size_p, bytesOf_p, zeroV_p, aggT_p, size3, size5, size9, size22, size24, size25, size27, size28, size29, size31, size40, size42, size47, agg3, agg5, agg9, agg22, agg24, agg25, agg27, agg28, agg29, agg31, agg40, agg42, agg47, bytesOf3, bytesOf5, bytesOf9, bytesOf42, bytesOf47, zeroV3, zeroV5, zeroV9, zeroV24, zeroV27, zeroV31, zeroV42, zeroV47, Tryd.underlying3, Tryd.underlying5, Tryd.underlying9, Tryd.underlying22, Tryd.underlying24, Tryd.underlying27, Tryd.underlying28, Tryd.underlying29, Tryd.underlying31, Tryd.underlying40, Tryd.underlying42, Tryd.underlying47, Tryd.underlying51, Tryd.underlying61, Tryd.underlying78, wrapI64, builtinV, convV, len9, len_nil, len_slz, len_sl, len_msl, slT, minV, asI, asN, ce_int, ce_str, ce_bool, ce_agg, ce_msl, ce_sl, ce_nilsl, sc_int, sc_str, sc_bool, sc_msl, sc_sl, sc_nilsl, sc_slz, fillV, splice, Heap.put, Heap.get, appendV, srcCells, cellsOf, rowOf, zerosT, isIntT, isStr, maxBytes, indexAddrV, fieldAddrV, fieldOf, sliceV, storeAt, cellsAt, takeV, partV, nextV, strOp, cfst, csnd, mapHd_some, hdS_mk, canonK_some, reach_nil, reach_cons, reachGo, clearTm, refsL, V.refs, Blk.refs, renL, V.ren, Blk.ren, indexOf, subHeap, resultsR, leaveR_some, lastK_ret, lastK_exit, fin_ret, fin_normal, leave_int, leave_bool, leave_str, run_callV, ext_p, XR_x, mut_p, callA_tuple, callB_some, callC_some, resolve_go, resolveK_nil, resolveK_cons, mergeAt, freezeRows, freezeRow, V.msls, mslsL, V.deep, deepL, V.resolve1, V.flat, flatL, c17, c34, c47, c71, evRegion_draw, drawK_some, run_cons, run_traceK, run_trace, run_trace0, run_traceN, run_traceC, K46, L46, R46, B46, Tryd.f46, S46]
def idx46 : List Cel → Nat → Int
  | [], _ => -1
  | t :: r, i => if cellB t.p t.s t.e = true then idx46 r (i + 1) else i
theorem round46 (l : List Cel) (hl : l.length ≤ 2000000) (i : Nat) (hi : i < l.length) :
    (∀ m, cellB l[i].p l[i].s l[i].e = true → mapHd [18, 4, 17, 16, 15, 14, 13, 12, 11, 5, 10, 9] (evCode X (m + 50) 46 0 L46 (S46 (.sl 3 l.length (cellsV l)) l.length i)) = some (.normal, S46 (.sl 3 l.length (cellsV l)) l.length (i + 1))) ∧
    (∀ q m, cellB l[i].p l[i].s l[i].e = false → lastK (K46 X q) (evCode X (m + 50) 46 0 L46 (S46 (.sl 3 l.length (cellsV l)) l.length i)) = some (.int .i64 i, [])) := by
  have hd : l.drop i = l[i] :: l.drop (i + 1) := List.drop_eq_getElem_cons hi
  have hx : (cellsV l).drop (i * 3) = .int .i64 l[i].p :: .int .i64 l[i].s :: .int .i64 l[i].e :: cellsV (l.drop (i + 1)) := by rw [cellsV_drop, hd]; rfl
  have hi' : (i : Int) < l.length := by omega
  obtain ⟨f1, f2, f3⟩ := cellsV_flat l
  have hw : IntKind.i64.wrap ((i : Int) + 1) = ((i + 1 : Nat) : Int) := by rw [wrapI64 (by omega) (by omega)]; rfl
  constructor
  · intro m hm
    simp -implicitDefEqProofs [run_seq, run_then, run_then_ret, run_then_exit, run_region, run_regionK, run_cond, run_cond_true, run_cond_false, run_block, run_block_exit, run_block_ret, run_block_normal, evCode_exit, evCode_ret, evCode_skip, evRegion_seq, run_seqs, run_seqK, evSeq_zero, run_step, run_stepO, run_stepK_true, run_stepK_false, run_stepR, wantedV, evOp, evOpR, opd, putTm, putAll, ofValue, ofScalar, binV, intOp, unV, und_p, size_p, bytesOf_p, zeroV_p, aggT_p, size3, size5, size9, size22, size24, size25, size27, size28, size29, size31, size40, size42, size47, agg3, agg5, agg9, agg22, agg24, agg25, agg27, agg28, agg29, agg31, agg40, agg42, agg47, bytesOf3, bytesOf5, bytesOf9, bytesOf42, bytesOf47, zeroV3, zeroV5, zeroV9, zeroV24, zeroV27, zeroV31, zeroV42, zeroV47, Tryd.underlying3, Tryd.underlying5, Tryd.underlying9, Tryd.underlying22, Tryd.underlying24, Tryd.underlying27, Tryd.underlying28, Tryd.underlying29, Tryd.underlying31, Tryd.underlying40, Tryd.underlying42, Tryd.underlying47, Tryd.underlying51, Tryd.underlying61, Tryd.underlying78, wrapI64, builtinV, convV, len9, len_nil, len_slz, len_sl, len_msl, slT, minV, asI, asN, ce_int, ce_str, ce_bool, ce_agg, ce_msl, ce_sl, ce_nilsl, sc_int, sc_str, sc_bool, sc_msl, sc_sl, sc_nilsl, sc_slz, fillV, splice, Heap.put, Heap.get, appendV, srcCells, cellsOf, rowOf, zerosT, isIntT, isStr, maxBytes, indexAddrV, fieldAddrV, fieldOf, sliceV, storeAt, cellsAt, takeV, partV, nextV, strOp, cfst, csnd, mapHd_some, hdS_mk, canonK_some, reach_nil, reach_cons, reachGo, clearTm, refsL, V.refs, Blk.refs, renL, V.ren, Blk.ren, indexOf, subHeap, resultsR, leaveR_some, lastK_ret, lastK_exit, fin_ret, fin_normal, leave_int, leave_bool, leave_str, run_callV, ext_p, XR_x, mut_p, callA_tuple, callB_some, callC_some, resolve_go, resolveK_nil, resolveK_cons, mergeAt, freezeRows, freezeRow, V.msls, mslsL, V.deep, deepL, V.resolve1, V.flat, flatL, c17, c34, c47, c71, evRegion_draw, drawK_some, run_cons, run_traceK, run_trace, run_trace0, run_traceN, run_traceC, L46, B46, Tryd.f46, S46, hi, hi', hx, c31, hm, hw, f2]
  · intro q m hm
    simp -implicitDefEqProofs [run_seq, run_then, run_then_ret, run_then_exit, run_region, run_regionK, run_cond, run_cond_true, run_cond_false, run_block, run_block_exit, run_block_ret, run_block_normal, evCode_exit, evCode_ret, evCode_skip, evRegion_seq, run_seqs, run_seqK, evSeq_zero, run_step, run_stepO, run_stepK_true, run_stepK_false, run_stepR, wantedV, evOp, evOpR, opd, putTm, putAll, ofValue, ofScalar, binV, intOp, unV, und_p, size_p, bytesOf_p, zeroV_p, aggT_p, size3, size5, size9, size22, size24, size25, size27, size28, size29, size31, size40, size42, size47, agg3, agg5, agg9, agg22, agg24, agg25, agg27, agg28, agg29, agg31, agg40, agg42, agg47, bytesOf3, bytesOf5, bytesOf9, bytesOf42, bytesOf47, zeroV3, zeroV5, zeroV9, zeroV24, zeroV27, zeroV31, zeroV42, zeroV47, Tryd.underlying3, Tryd.underlying5, Tryd.underlying9, Tryd.underlying22, Tryd.underlying24, Tryd.underlying27, Tryd.underlying28, Tryd.underlying29, Tryd.underlying31, Tryd.underlying40, Tryd.underlying42, Tryd.underlying47, Tryd.underlying51, Tryd.underlying61, Tryd.underlying78, wrapI64, builtinV, convV, len9, len_nil, len_slz, len_sl, len_msl, slT, minV, asI, asN, ce_int, ce_str, ce_bool, ce_agg, ce_msl, ce_sl, ce_nilsl, sc_int, sc_str, sc_bool, sc_msl, sc_sl, sc_nilsl, sc_slz, fillV, splice, Heap.put, Heap.get, appendV, srcCells, cellsOf, rowOf, zerosT, isIntT, isStr, maxBytes, indexAddrV, fieldAddrV, fieldOf, sliceV, storeAt, cellsAt, takeV, partV, nextV, strOp, cfst, csnd, mapHd_some, hdS_mk, canonK_some, reach_nil, reach_cons, reachGo, clearTm, refsL, V.refs, Blk.refs, renL, V.ren, Blk.ren, indexOf, subHeap, resultsR, leaveR_some, lastK_ret, lastK_exit, fin_ret, fin_normal, leave_int, leave_bool, leave_str, run_callV, ext_p, XR_x, mut_p, callA_tuple, callB_some, callC_some, resolve_go, resolveK_nil, resolveK_cons, mergeAt, freezeRows, freezeRow, V.msls, mslsL, V.deep, deepL, V.resolve1, V.flat, flatL, c17, c34, c47, c71, evRegion_draw, drawK_some, run_cons, run_traceK, run_trace, run_trace0, run_traceN, run_traceC, K46, R46, L46, B46, Tryd.f46, S46, hi, hi', hx, c31, hm, hw, f2]
theorem loop46 (q : Nat) (l : List Cel) (hl : l.length ≤ 2000000) (x : V) (hx : (l = [] ∧ (x = .nilsl ∨ x = .slz)) ∨ (0 ≤ l.length ∧ x = .sl 3 l.length (cellsV l))) (st : St) (hs : hdS [18, 4, 17, 16, 15, 14, 13, 12, 11, 5, 10, 9] st = S46 x l.length 0) :
    K46 X q (evCode X (l.length + 50 + 1) 46 0 (.loop L46) st) = some (.int .i64 (idx46 l 0), []) := by
  refine loop_run (clears46 (X := X)) (S46 x l.length) (fun a => a ≤ l.length) (fun a => l.length - a) (fun a => (.int .i64 (idx46 (l.drop a) a), [])) (K46 X q) 50 ?_ l.length 0 st (by simp) (by simp) hs
  intro i hi
  by_cases he : i = l.length
  · right
    subst he
    intro m
    rw [end46]
    simp [idx46]
  · have hil : i < l.length := by omega
    have hd : l.drop i = l[i] :: l.drop (i + 1) := List.drop_eq_getElem_cons hil
    have hx' : x = .sl 3 l.length (cellsV l) := by
      rcases hx with ⟨e, _⟩ | ⟨_, e⟩
      · rw [e] at hil; simp at hil
      · exact e
    have hr := round46 (X := X) l hl  i hil
    subst hx'
    rw [hd, idx46]
    by_cases hb : cellB l[i].p l[i].s l[i].e = true
    · left
      refine ⟨i + 1, by omega, by omega, by rw [if_pos hb], fun m => hr.1 m hb⟩
    · right
      intro m
      rw [if_neg hb]
      exact hr.2 q m (by simpa using hb)
theorem start46 (x : V) (hm : x.refs = []) (n : Nat) : hdS [18, 4, 17, 16, 15, 14, 13, 12, 11, 5, 10, 9] ⟨[x, .func (.func 31) [] [], .dead, .dead, .int .i64 0, .dead, x, .int .i64 n, .int .i64 0, .dead, .dead, .dead, .dead, .dead, .dead, .dead, .dead, .dead, .dead], []⟩ = S46 x n 0 := by
  simp -implicitDefEqProofs [mapHd_some, hdS_mk, canonK_some, reach_nil, reach_cons, reachGo, clearTm, refsL, V.refs, Blk.refs, renL, V.ren, Blk.ren, indexOf, subHeap, S46, hm]
theorem ev46 (hs : X.spec 46 = none) (x : V) (l : List Cel) (hx : cellsOfV x = some l) : evCall X (l.length + 55) 46 [x, .func (.func 31) [] []] [] = some (.int .i64 (idx46 l 0), []) := by
  refine call_fin (nt := 19) (res := #[.tmp 4]) hs (fn_p Tryd.func46) shape46 rfl rfl ?_
  obtain ⟨h1, h2, h3, h5⟩ := cellsOfV_some hx
  have hn := h1.len (X := X) (t := 29) Tryd.underlying29
  rw [h2] at hn
  obtain ⟨s1, s2, s3, s4⟩ := h1
  have hh := loop46 (X := X) (l.length + 33) l h3  x h5 _ (start46 x s3 l.length)
  unfold K46 at hh
  generalize fin X #[.tmp 4] 46 0 = G at hh ⊢
  refine Eq.trans (congrArg G ?_) hh
  simp -implicitDefEqProofs [run_seq, run_then, run_then_ret, run_then_exit, run_region, run_regionK, run_cond, run_cond_true, run_cond_false, run_block, run_block_exit, run_block_ret, run_block_normal, evCode_exit, evCode_ret, evCode_skip, evRegion_seq, run_seqs, run_seqK, evSeq_zero, run_step, run_stepO, run_stepK_true, run_stepK_false, run_stepR, wantedV, evOp, evOpR, opd, putTm, putAll, ofValue, ofScalar, binV, intOp, unV, und_p, size_p, bytesOf_p, zeroV_p, aggT_p, size3, size5, size9, size22, size24, size25, size27, size28, size29, size31, size40, size42, size47, agg3, agg5, agg9, agg22, agg24, agg25, agg27, agg28, agg29, agg31, agg40, agg42, agg47, bytesOf3, bytesOf5, bytesOf9, bytesOf42, bytesOf47, zeroV3, zeroV5, zeroV9, zeroV24, zeroV27, zeroV31, zeroV42, zeroV47, Tryd.underlying3, Tryd.underlying5, Tryd.underlying9, Tryd.underlying22, Tryd.underlying24, Tryd.underlying27, Tryd.underlying28, Tryd.underlying29, Tryd.underlying31, Tryd.underlying40, Tryd.underlying42, Tryd.underlying47, Tryd.underlying51, Tryd.underlying61, Tryd.underlying78, wrapI64, builtinV, convV, len9, len_nil, len_slz, len_sl, len_msl, slT, minV, asI, asN, ce_int, ce_str, ce_bool, ce_agg, ce_msl, ce_sl, ce_nilsl, sc_int, sc_str, sc_bool, sc_msl, sc_sl, sc_nilsl, sc_slz, fillV, splice, Heap.put, Heap.get, appendV, srcCells, cellsOf, rowOf, zerosT, isIntT, isStr, maxBytes, indexAddrV, fieldAddrV, fieldOf, sliceV, storeAt, cellsAt, takeV, partV, nextV, strOp, cfst, csnd, mapHd_some, hdS_mk, canonK_some, reach_nil, reach_cons, reachGo, clearTm, refsL, V.refs, Blk.refs, renL, V.ren, Blk.ren, indexOf, subHeap, resultsR, leaveR_some, lastK_ret, lastK_exit, fin_ret, fin_normal, leave_int, leave_bool, leave_str, run_callV, ext_p, XR_x, mut_p, callA_tuple, callB_some, callC_some, resolve_go, resolveK_nil, resolveK_cons, mergeAt, freezeRows, freezeRow, V.msls, mslsL, V.deep, deepL, V.resolve1, V.flat, flatL, c17, c34, c47, c71, evRegion_draw, drawK_some, run_cons, run_traceK, run_trace, run_trace0, run_traceN, run_traceC, B46, Tryd.f46, hn]
end
end Go.Ev
set_option linter.unusedVariables false
set_option linter.unusedSimpArgs false
set_option linter.unusedSectionVars false
set_option maxRecDepth 100000
set_option maxHeartbeats 4000000
namespace Go.Ev
open Go Go.Proofs
theorem Low.hook {X : Ctx} (h : Low X) {f : FuncId} (F) (hf : f ∉ [17, 34, 47, 71, 14, 15, 16, 18, 26, 28, 29, 31, 32, 33, 38, 43, 45, 53, 59, 72]) : Low (X.hook f F) := by
  have e : ∀ g, g ≠ f → (X.hook f F).spec g = X.spec g := fun g hg => by rw [hook_s, if_neg hg]
  refine { h17 := (e _ ?_).trans h.h17, h34 := (e _ ?_).trans h.h34, h47 := (e _ ?_).trans h.h47, h71 := (e _ ?_).trans h.h71, n := fun g hg => (e g ?_).trans (h.n g hg), m := h.m, .. }
  · intro e; apply hf; rw [← e]; decide
  · intro e; apply hf; rw [← e]; decide
  · intro e; apply hf; rw [← e]; decide
  · intro e; apply hf; rw [← e]; decide
  · intro hgf; apply hf; rw [← hgf]; exact List.mem_append_right [17, 34, 47, 71] hg
def F44 (args : List V) (H : Heap) : Option (V × Heap) := match args, H with
  | [x, .func (.func 28) [] []], [] => match itemsOf x with
    | some l => some (.int .i64 (idx44 l 0), [])
    | none => none
  | _, _ => none
def F46 (args : List V) (H : Heap) : Option (V × Heap) := match args, H with
  | [x, .func (.func 31) [] []], [] => match cellsOfV x with
    | some l => some (.int .i64 (idx46 l 0), [])
    | none => none
  | _, _ => none
noncomputable def X5 : Ctx := X4.hook 44 F44
instance : Low X5 := Low.hook (inferInstanceAs (Low X4)) F44 (by decide)
theorem X5_good : Good X5 := X4_good.hook fun args H r H' h => by
  unfold F44 at h
  split at h
  · rename_i x
    split at h
    · rename_i l hl
      cases h
      exact ⟨_, ev44 rfl x l hl⟩
    · cases h
  · cases h
noncomputable def X6 : Ctx := X5.hook 46 F46
instance : Low X6 := Low.hook (inferInstanceAs (Low X5)) F46 (by decide)
theorem X6_good : Good X6 := X5_good.hook fun args H r H' h => by
  unfold F46 at h
  split at h
  · rename_i x
    split at h
    · rename_i l hl
      cases h
      exact ⟨_, ev46 rfl x l hl⟩
    · cases h
  · cases h
def allItems (l : List Itm) : Bool := l.all fun t => mayItem t.d t.p t.bytes.length
def allCells (l : List Cel) : Bool := l.all fun t => cellB t.p t.s t.e
theorem idx44_all : ∀ (l : List Itm) (i : Nat), decide (0 ≤ idx44 l i) = !allItems l
  | [], i => rfl
  | t :: r, i => by
    rw [idx44]
    have := idx44_all r (i + 1)
    unfold allItems at *
    by_cases h : mayItem t.d t.p t.bytes.length = true
    · rw [if_pos h, this]; simp [h]
    · rw [if_neg h]; simp [h]
theorem idx46_all : ∀ (l : List Cel) (i : Nat), decide (0 ≤ idx46 l i) = !allCells l
  | [], i => rfl
  | t :: r, i => by
    rw [idx46]
    have := idx46_all r (i + 1)
    unfold allCells at *
    by_cases h : cellB t.p t.s t.e = true
    · rw [if_pos h, this]; simp [h]
    · rw [if_neg h]; simp [h]
theorem mid_fin {n : Nat} {f : FuncId} {fn : Func} {nt : Nat} {res : Array ResultVar} {c : Code} {args : List V} {r : V × Heap} (hs : X6.spec f = none) (hf : Tryd.prog.funcs[f]? = some fn) (hb : fn.body = some c) (hn : fn.ntmps = nt) (hr : fn.results = res)
    (hc : fin X6 res f 0 (evCode X6 n f 0 c ⟨args ++ List.replicate (nt - args.length) .dead, []⟩) = some r) : callWith X6 (evCode X6 n) f args [] = some r :=
  call_fin hs (fn_p hf) hb hn hr hc
theorem c27 (m : Nat) (x : V) (l : List Itm) (hx : itemsOf x = some l) : callWith X6 (evCode X6 (m + 20)) 27 [x, .func (.func 28) [] []] [] = some (.bool (!allItems l), []) := by
  refine mid_fin (nt := 9) (res := #[.tmp 4]) rfl Tryd.func27 (by rw [Tryd.f27]) rfl rfl ?_
  have hF : F44 [x, .func (.func 28) [] []] [] = some (.int .i64 (idx44 l 0), []) := by simp [F44, hx]
  have c44 : ∀ rec args H, callWith X6 rec 44 args H = F44 args H := fun rec args H => call_hook rfl _ _
  obtain ⟨s1, s2, s3, s4⟩ := (itemsOf_some hx).1
  have hr : ∀ f, x.ren f = x := fun f => ren_id f x s3
  simp -implicitDefEqProofs [run_seq, run_then, run_then_ret, run_then_exit, run_region, run_regionK, run_cond, run_cond_true, run_cond_false, run_block, run_block_exit, run_block_ret, run_block_normal, evCode_exit, evCode_ret, evCode_skip, evRegion_seq, run_seqs, run_seqK, evSeq_zero, run_step, run_stepO, run_stepK_true, run_stepK_false, run_stepR, wantedV, evOp, evOpR, opd, putTm, putAll, ofValue, ofScalar, binV, intOp, unV, und_p, size_p, bytesOf_p, zeroV_p, aggT_p, size3, size5, size9, size22, size24, size25, size27, size28, size29, size31, size40, size42, size47, agg3, agg5, agg9, agg22, agg24, agg25, agg27, agg28, agg29, agg31, agg40, agg42, agg47, bytesOf3, bytesOf5, bytesOf9, bytesOf42, bytesOf47, zeroV3, zeroV5, zeroV9, zeroV24, zeroV27, zeroV31, zeroV42, zeroV47, Tryd.underlying3, Tryd.underlying5, Tryd.underlying9, Tryd.underlying22, Tryd.underlying24, Tryd.underlying27, Tryd.underlying28, Tryd.underlying29, Tryd.underlying31, Tryd.underlying40, Tryd.underlying42, Tryd.underlying47, Tryd.underlying51, Tryd.underlying61, Tryd.underlying78, wrapI64, builtinV, convV, len9, len_nil, len_slz, len_sl, len_msl, slT, minV, asI, asN, ce_int, ce_str, ce_bool, ce_agg, ce_msl, ce_sl, ce_nilsl, sc_int, sc_str, sc_bool, sc_msl, sc_sl, sc_nilsl, sc_slz, fillV, splice, Heap.put, Heap.get, appendV, srcCells, cellsOf, rowOf, zerosT, isIntT, isStr, maxBytes, indexAddrV, fieldAddrV, fieldOf, sliceV, storeAt, cellsAt, takeV, partV, nextV, strOp, cfst, csnd, mapHd_some, hdS_mk, canonK_some, reach_nil, reach_cons, reachGo, clearTm, refsL, V.refs, Blk.refs, renL, V.ren, Blk.ren, indexOf, subHeap, resultsR, leaveR_some, lastK_ret, lastK_exit, fin_ret, fin_normal, leave_int, leave_bool, leave_str, run_callV, ext_p, XR_x, mut_p, callA_tuple, callB_some, callC_some, resolve_go, resolveK_nil, resolveK_cons, mergeAt, freezeRows, freezeRow, V.msls, mslsL, V.deep, deepL, V.resolve1, V.flat, flatL, c17, c34, c47, c71, evRegion_draw, drawK_some, run_cons, run_traceK, run_trace, run_trace0, run_traceN, run_traceC, c44, hF, s1, s2, s3, hr, idx44_all]
theorem c30 (m : Nat) (x : V) (l : List Cel) (hx : cellsOfV x = some l) : callWith X6 (evCode X6 (m + 20)) 30 [x, .func (.func 31) [] []] [] = some (.bool (!allCells l), []) := by
  refine mid_fin (nt := 9) (res := #[.tmp 4]) rfl Tryd.func30 (by rw [Tryd.f30]) rfl rfl ?_
  have hF : F46 [x, .func (.func 31) [] []] [] = some (.int .i64 (idx46 l 0), []) := by simp [F46, hx]
  have c46 : ∀ rec args H, callWith X6 rec 46 args H = F46 args H := fun rec args H => call_hook rfl _ _
  obtain ⟨s1, s2, s3, s4⟩ := (cellsOfV_some hx).1
  have hr : ∀ f, x.ren f = x := fun f => ren_id f x s3
  simp -implicitDefEqProofs [run_seq, run_then, run_then_ret, run_then_exit, run_region, run_regionK, run_cond, run_cond_true, run_cond_false, run_block, run_block_exit, run_block_ret, run_block_normal, evCode_exit, evCode_ret, evCode_skip, evRegion_seq, run_seqs, run_seqK, evSeq_zero, run_step, run_stepO, run_stepK_true, run_stepK_false, run_stepR, wantedV, evOp, evOpR, opd, putTm, putAll, ofValue, ofScalar, binV, intOp, unV, und_p, size_p, bytesOf_p, zeroV_p, aggT_p, size3, size5, size9, size22, size24, size25, size27, size28, size29, size31, size40, size42, size47, agg3, agg5, agg9, agg22, agg24, agg25, agg27, agg28, agg29, agg31, agg40, agg42, agg47, bytesOf3, bytesOf5, bytesOf9, bytesOf42, bytesOf47, zeroV3, zeroV5, zeroV9, zeroV24, zeroV27, zeroV31, zeroV42, zeroV47, Tryd.underlying3, Tryd.underlying5, Tryd.underlying9, Tryd.underlying22, Tryd.underlying24, Tryd.underlying27, Tryd.underlying28, Tryd.underlying29, Tryd.underlying31, Tryd.underlying40, Tryd.underlying42, Tryd.underlying47, Tryd.underlying51, Tryd.underlying61, Tryd.underlying78, wrapI64, builtinV, convV, len9, len_nil, len_slz, len_sl, len_msl, slT, minV, asI, asN, ce_int, ce_str, ce_bool, ce_agg, ce_msl, ce_sl, ce_nilsl, sc_int, sc_str, sc_bool, sc_msl, sc_sl, sc_nilsl, sc_slz, fillV, splice, Heap.put, Heap.get, appendV, srcCells, cellsOf, rowOf, zerosT, isIntT, isStr, maxBytes, indexAddrV, fieldAddrV, fieldOf, sliceV, storeAt, cellsAt, takeV, partV, nextV, strOp, cfst, csnd, mapHd_some, hdS_mk, canonK_some, reach_nil, reach_cons, reachGo, clearTm, refsL, V.refs, Blk.refs, renL, V.ren, Blk.ren, indexOf, subHeap, resultsR, leaveR_some, lastK_ret, lastK_exit, fin_ret, fin_normal, leave_int, leave_bool, leave_str, run_callV, ext_p, XR_x, mut_p, callA_tuple, callB_some, callC_some, resolve_go, resolveK_nil, resolveK_cons, mergeAt, freezeRows, freezeRow, V.msls, mslsL, V.deep, deepL, V.resolve1, V.flat, flatL, c17, c34, c47, c71, evRegion_draw, drawK_some, run_cons, run_traceK, run_trace, run_trace0, run_traceN, run_traceC, c46, hF, s1, s2, s3, hr, idx46_all]
def witOk (w : V) : Bool := w.scalar && w.msls.isEmpty && w.refs.isEmpty
/-- A report, its witness aside. -/
structure Rep where
  k : Int
  a : Int
  fa : Int
  fe : Int
  items : Int
  short : List Itm
  cells : List Cel
def mayB (r : Rep) : Bool := verdictB r.k r.a r.fa r.fe r.items r.short.length r.cells.length && allItems r.short && allCells r.cells
def repOf : V → Option Rep
  | .agg [.int .i64 k, .int .i64 a, .int .i64 fa, .int .i64 fe, wit, .int .i64 items, short, cells] => match itemsOf short, cellsOfV cells with
    | some l, some c => if witOk wit then some ⟨k, a, fa, fe, items, l, c⟩ else none
    | _, _ => none
  | _ => none
theorem ev12 (m : Nat) (v : V) (r : Rep) (hv : repOf v = some r) : callWith X6 (evCode X6 (m + 60)) 12 [v] [] = some (.bool (mayB r), []) := by
  unfold repOf at hv
  split at hv
  · rename_i k a fa fe wit items short cells
    split at hv
    · rename_i l c hl hc
      split at hv
      · rename_i hw
        cases hv
        simp only [witOk, Bool.and_eq_true, List.isEmpty_iff] at hw
        obtain ⟨⟨w1, w2⟩, w3⟩ := hw
        obtain ⟨hs, hsl, hsb, _⟩ := itemsOf_some hl
        obtain ⟨hcs, hcl, hcb, _⟩ := cellsOfV_some hc
        have c26' := fun m => c26 (X := X6) m k a fa fe items wit short cells w1 hs hcs (by omega)
        rw [hsl, hcl] at c26'
        obtain ⟨s1, s2, s3, s4⟩ := hs
        obtain ⟨d1, d2, d3, d4⟩ := hcs
        have r1 : ∀ f, wit.ren f = wit := fun f => ren_id f _ w3
        have r2 : ∀ f, short.ren f = short := fun f => ren_id f _ s3
        have r3 : ∀ f, cells.ren f = cells := fun f => ren_id f _ d3
        have h27 := fun m => c27 m short l hl
        have h30 := fun m => c30 m cells c hc
        refine mid_fin (nt := 17) (res := #[.tmp 2]) rfl Tryd.func12 (by rw [Tryd.f12]) rfl rfl ?_
        unfold mayB
        simp only
        cases g1 : verdictB k a fa fe items l.length c.length
        · simp -implicitDefEqProofs [run_seq, run_then, run_then_ret, run_then_exit, run_region, run_regionK, run_cond, run_cond_true, run_cond_false, run_block, run_block_exit, run_block_ret, run_block_normal, evCode_exit, evCode_ret, evCode_skip, evRegion_seq, run_seqs, run_seqK, evSeq_zero, run_step, run_stepO, run_stepK_true, run_stepK_false, run_stepR, wantedV, evOp, evOpR, opd, putTm, putAll, ofValue, ofScalar, binV, intOp, unV, und_p, size_p, bytesOf_p, zeroV_p, aggT_p, size3, size5, size9, size22, size24, size25, size27, size28, size29, size31, size40, size42, size47, agg3, agg5, agg9, agg22, agg24, agg25, agg27, agg28, agg29, agg31, agg40, agg42, agg47, bytesOf3, bytesOf5, bytesOf9, bytesOf42, bytesOf47, zeroV3, zeroV5, zeroV9, zeroV24, zeroV27, zeroV31, zeroV42, zeroV47, Tryd.underlying3, Tryd.underlying5, Tryd.underlying9, Tryd.underlying22, Tryd.underlying24, Tryd.underlying27, Tryd.underlying28, Tryd.underlying29, Tryd.underlying31, Tryd.underlying40, Tryd.underlying42, Tryd.underlying47, Tryd.underlying51, Tryd.underlying61, Tryd.underlying78, wrapI64, builtinV, convV, len9, len_nil, len_slz, len_sl, len_msl, slT, minV, asI, asN, ce_int, ce_str, ce_bool, ce_agg, ce_msl, ce_sl, ce_nilsl, sc_int, sc_str, sc_bool, sc_msl, sc_sl, sc_nilsl, sc_slz, fillV, splice, Heap.put, Heap.get, appendV, srcCells, cellsOf, rowOf, zerosT, isIntT, isStr, maxBytes, indexAddrV, fieldAddrV, fieldOf, sliceV, storeAt, cellsAt, takeV, partV, nextV, strOp, cfst, csnd, mapHd_some, hdS_mk, canonK_some, reach_nil, reach_cons, reachGo, clearTm, refsL, V.refs, Blk.refs, renL, V.ren, Blk.ren, indexOf, subHeap, resultsR, leaveR_some, lastK_ret, lastK_exit, fin_ret, fin_normal, leave_int, leave_bool, leave_str, run_callV, ext_p, XR_x, mut_p, callA_tuple, callB_some, callC_some, resolve_go, resolveK_nil, resolveK_cons, mergeAt, freezeRows, freezeRow, V.msls, mslsL, V.deep, deepL, V.resolve1, V.flat, flatL, c17, c34, c47, c71, evRegion_draw, drawK_some, run_cons, run_traceK, run_trace, run_trace0, run_traceN, run_traceC, w1, w2, w3, s1, s2, s3, d1, d2, d3, r1, r2, r3, c26', g1]
        · cases g2 : allItems l
          · simp -implicitDefEqProofs [run_seq, run_then, run_then_ret, run_then_exit, run_region, run_regionK, run_cond, run_cond_true, run_cond_false, run_block, run_block_exit, run_block_ret, run_block_normal, evCode_exit, evCode_ret, evCode_skip, evRegion_seq, run_seqs, run_seqK, evSeq_zero, run_step, run_stepO, run_stepK_true, run_stepK_false, run_stepR, wantedV, evOp, evOpR, opd, putTm, putAll, ofValue, ofScalar, binV, intOp, unV, und_p, size_p, bytesOf_p, zeroV_p, aggT_p, size3, size5, size9, size22, size24, size25, size27, size28, size29, size31, size40, size42, size47, agg3, agg5, agg9, agg22, agg24, agg25, agg27, agg28, agg29, agg31, agg40, agg42, agg47, bytesOf3, bytesOf5, bytesOf9, bytesOf42, bytesOf47, zeroV3, zeroV5, zeroV9, zeroV24, zeroV27, zeroV31, zeroV42, zeroV47, Tryd.underlying3, Tryd.underlying5, Tryd.underlying9, Tryd.underlying22, Tryd.underlying24, Tryd.underlying27, Tryd.underlying28, Tryd.underlying29, Tryd.underlying31, Tryd.underlying40, Tryd.underlying42, Tryd.underlying47, Tryd.underlying51, Tryd.underlying61, Tryd.underlying78, wrapI64, builtinV, convV, len9, len_nil, len_slz, len_sl, len_msl, slT, minV, asI, asN, ce_int, ce_str, ce_bool, ce_agg, ce_msl, ce_sl, ce_nilsl, sc_int, sc_str, sc_bool, sc_msl, sc_sl, sc_nilsl, sc_slz, fillV, splice, Heap.put, Heap.get, appendV, srcCells, cellsOf, rowOf, zerosT, isIntT, isStr, maxBytes, indexAddrV, fieldAddrV, fieldOf, sliceV, storeAt, cellsAt, takeV, partV, nextV, strOp, cfst, csnd, mapHd_some, hdS_mk, canonK_some, reach_nil, reach_cons, reachGo, clearTm, refsL, V.refs, Blk.refs, renL, V.ren, Blk.ren, indexOf, subHeap, resultsR, leaveR_some, lastK_ret, lastK_exit, fin_ret, fin_normal, leave_int, leave_bool, leave_str, run_callV, ext_p, XR_x, mut_p, callA_tuple, callB_some, callC_some, resolve_go, resolveK_nil, resolveK_cons, mergeAt, freezeRows, freezeRow, V.msls, mslsL, V.deep, deepL, V.resolve1, V.flat, flatL, c17, c34, c47, c71, evRegion_draw, drawK_some, run_cons, run_traceK, run_trace, run_trace0, run_traceN, run_traceC, w1, w2, w3, s1, s2, s3, d1, d2, d3, r1, r2, r3, c26', g1, h27, g2]
          · simp -implicitDefEqProofs [run_seq, run_then, run_then_ret, run_then_exit, run_region, run_regionK, run_cond, run_cond_true, run_cond_false, run_block, run_block_exit, run_block_ret, run_block_normal, evCode_exit, evCode_ret, evCode_skip, evRegion_seq, run_seqs, run_seqK, evSeq_zero, run_step, run_stepO, run_stepK_true, run_stepK_false, run_stepR, wantedV, evOp, evOpR, opd, putTm, putAll, ofValue, ofScalar, binV, intOp, unV, und_p, size_p, bytesOf_p, zeroV_p, aggT_p, size3, size5, size9, size22, size24, size25, size27, size28, size29, size31, size40, size42, size47, agg3, agg5, agg9, agg22, agg24, agg25, agg27, agg28, agg29, agg31, agg40, agg42, agg47, bytesOf3, bytesOf5, bytesOf9, bytesOf42, bytesOf47, zeroV3, zeroV5, zeroV9, zeroV24, zeroV27, zeroV31, zeroV42, zeroV47, Tryd.underlying3, Tryd.underlying5, Tryd.underlying9, Tryd.underlying22, Tryd.underlying24, Tryd.underlying27, Tryd.underlying28, Tryd.underlying29, Tryd.underlying31, Tryd.underlying40, Tryd.underlying42, Tryd.underlying47, Tryd.underlying51, Tryd.underlying61, Tryd.underlying78, wrapI64, builtinV, convV, len9, len_nil, len_slz, len_sl, len_msl, slT, minV, asI, asN, ce_int, ce_str, ce_bool, ce_agg, ce_msl, ce_sl, ce_nilsl, sc_int, sc_str, sc_bool, sc_msl, sc_sl, sc_nilsl, sc_slz, fillV, splice, Heap.put, Heap.get, appendV, srcCells, cellsOf, rowOf, zerosT, isIntT, isStr, maxBytes, indexAddrV, fieldAddrV, fieldOf, sliceV, storeAt, cellsAt, takeV, partV, nextV, strOp, cfst, csnd, mapHd_some, hdS_mk, canonK_some, reach_nil, reach_cons, reachGo, clearTm, refsL, V.refs, Blk.refs, renL, V.ren, Blk.ren, indexOf, subHeap, resultsR, leaveR_some, lastK_ret, lastK_exit, fin_ret, fin_normal, leave_int, leave_bool, leave_str, run_callV, ext_p, XR_x, mut_p, callA_tuple, callB_some, callC_some, resolve_go, resolveK_nil, resolveK_cons, mergeAt, freezeRows, freezeRow, V.msls, mslsL, V.deep, deepL, V.resolve1, V.flat, flatL, c17, c34, c47, c71, evRegion_draw, drawK_some, run_cons, run_traceK, run_trace, run_trace0, run_traceN, run_traceC, w1, w2, w3, s1, s2, s3, d1, d2, d3, r1, r2, r3, c26', g1, h27, g2, h30]
      · cases hv
    · cases hv
  · cases hv
end Go.Ev
