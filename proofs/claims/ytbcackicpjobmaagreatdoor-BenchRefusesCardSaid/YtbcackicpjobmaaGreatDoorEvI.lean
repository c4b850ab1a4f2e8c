/- A part of the proof of BenchRefuses: no statement of the seat's stands here. -/
import Derived.Test.YtbcackicpjobmaaGreatDoorEvH
set_option linter.unusedSectionVars false
set_option linter.unusedSimpArgs false
set_option linter.unusedVariables false
set_option linter.all false
/- An operation leans on what it reads. -/
set_option linter.unusedSectionVars false
set_option linter.unusedSimpArgs false
set_option linter.unusedVariables false
namespace Go.Ev
open Go
section
variable {X : Ctx} {H H' : Heap} {r : Res}

def Agree (H H' : Heap) (l : List Nat) : Prop := ∀ b ∈ l, H'.get b = H.get b

theorem rowOf_local {b ver : Nat} (e : H'.get b = H.get b) : rowOf H' b ver = rowOf H b ver := by unfold rowOf; rw [e]
theorem mapOf_local {b : Nat} (e : H'.get b = H.get b) : mapOf H' b = mapOf H b := by unfold mapOf; rw [e]

theorem cellsAt_local {p : V} {cs : List V} {rd : List Nat} (h : cellsAt H p = some (cs, rd)) (e : Agree H H' rd) : cellsAt H' p = some (cs, rd) := by
  unfold cellsAt at h ⊢
  split at h
  · exact h
  · obtain ⟨x, h1, h2⟩ := Option.bind_eq_some_iff.1 h
    cases h2
    try simp only
    rw [rowOf_local (e _ (by simp)), h1]
    rfl
  · cases h
theorem cellsOf_local {p : V} {n : Nat} {cs : List V} {rd : List Nat} (h : cellsOf H p = some (n, cs, rd)) (e : Agree H H' rd) : cellsOf H' p = some (n, cs, rd) := by
  unfold cellsOf at h ⊢
  split at h
  · exact h
  · exact h
  · exact h
  · obtain ⟨x, h1, h2⟩ := Option.bind_eq_some_iff.1 h
    simp only at h2
    split at h2
    · rename_i hc
      cases h2
      try simp only
      rw [rowOf_local (e _ (by simp)), h1]
      simp only [Option.bind_eq_bind, Option.bind_some]
      rw [if_pos hc]
    · cases h2
  · cases h
theorem srcCells_local {p : V} {n : Nat} {cs : List V} {rd : List Nat} (h : srcCells H p = some (n, cs, rd)) (e : Agree H H' rd) : srcCells H' p = some (n, cs, rd) := by
  unfold srcCells at h ⊢
  split at h
  · exact h
  · exact cellsOf_local h e
theorem storeAt_local {p : V} {new : List V} (h : storeAt H p new = some r) (e : Agree H H' r.rd) : storeAt H' p new = some r := by
  unfold storeAt at h ⊢
  split at h
  · obtain ⟨x, h1, h2⟩ := Option.bind_eq_some_iff.1 h
    simp only at h2
    split at h2
    · rename_i hc
      cases h2
      try simp only
      rw [rowOf_local (e _ (by simp)), h1]
      simp only [Option.bind_eq_bind, Option.bind_some]
      rw [if_pos hc]
    · cases h2
  · cases h
theorem convV_local {s d : TypeId} {x : V} {fresh : Nat → Nat} (h : convV X s d x fresh H = some r) (e : Agree H H' r.rd) : convV X s d x fresh H' = some r := by
  unfold convV at h ⊢
  obtain ⟨ds, hs, h_⟩ := Option.bind_eq_some_iff.1 h; clear h; have h := h_; clear h_
  obtain ⟨dd, hd, h_⟩ := Option.bind_eq_some_iff.1 h; clear h; have h := h_; clear h_
  simp only [hs, hd, Option.bind_eq_bind, Option.bind_some]
  split at h
  · exact h
  · exact h
  · exact h
  · rename_i e' x
    try simp only
    obtain ⟨de, hde, h_⟩ := Option.bind_eq_some_iff.1 h; clear h; have h := h_; clear h_
    simp only [hde, Option.bind_some]
    split at h
    · obtain ⟨⟨n, cs, rd⟩, hc, h_⟩ := Option.bind_eq_some_iff.1 h; clear h; have h := h_; clear h_
      try simp only at h
      have : rd = r.rd := by
        split at h
        · obtain ⟨t, _, h_⟩ := Option.bind_eq_some_iff.1 h; clear h; have h := h_; clear h_
          cases h; rfl
        · cases h
      subst this
      rw [cellsOf_local hc e]
      exact h
    · cases h
  · cases h
theorem sliceV_local {t : TypeId} {x : V} {lo hi mx : Option V} (h : sliceV X t x lo hi mx H = some r) (e : Agree H H' r.rd) : sliceV X t x lo hi mx H' = some r := by
  unfold sliceV at h ⊢
  obtain ⟨d, hd, h_⟩ := Option.bind_eq_some_iff.1 h; clear h; have h := h_; clear h_
  simp only [hd, Option.bind_eq_bind, Option.bind_some]
  split at h
  · exact h
  · exact h
  · exact h
  · exact h
  · rename_i e' b ver o sz len
    try simp only
    obtain ⟨hh, g1, h_⟩ := Option.bind_eq_some_iff.1 h; clear h; have h := h_; clear h_
    obtain ⟨ll, g2, h_⟩ := Option.bind_eq_some_iff.1 h; clear h; have h := h_; clear h_
    obtain ⟨rw', g3, h_⟩ := Option.bind_eq_some_iff.1 h; clear h; have h := h_; clear h_
    obtain ⟨ss, g4, h_⟩ := Option.bind_eq_some_iff.1 h; clear h; have h := h_; clear h_
    have hb : r.rd = [b] := by
      split at h
      · split at h
        · split at h
          · cases h; rfl
          · cases h
        · obtain ⟨m, _, h_⟩ := Option.bind_eq_some_iff.1 h; clear h; have h := h_; clear h_
          split at h
          · cases h; rfl
          · cases h
      · cases h
    simp only [g1, g2, g4, Option.bind_some]
    rw [rowOf_local (e b (by rw [hb]; simp)), g3]
    exact h
  · rename_i n e' p
    try simp only
    obtain ⟨ss, g4, h_⟩ := Option.bind_eq_some_iff.1 h; clear h; have h := h_; clear h_
    obtain ⟨hh, g1, h_⟩ := Option.bind_eq_some_iff.1 h; clear h; have h := h_; clear h_
    obtain ⟨ll, g2, h_⟩ := Option.bind_eq_some_iff.1 h; clear h; have h := h_; clear h_
    simp only [g1, g2, g4, Option.bind_some]
    split at h
    · rename_i hc
      rw [if_pos hc]
      split at h
      · rename_i b ver o
        try simp only
        obtain ⟨row, g3, h_⟩ := Option.bind_eq_some_iff.1 h; clear h; have h := h_; clear h_
        try simp only at h
        have hb : r.rd = [b] := by
          split at h
          · cases h; rfl
          · cases h
        rw [rowOf_local (e b (by rw [hb]; simp)), g3]
        exact h
      · exact h
      · cases h
    · cases h
  · cases h
theorem indexAddrV_local {t : TypeId} {x ix : V} (h : indexAddrV X t x ix H = some r) (e : Agree H H' r.rd) : indexAddrV X t x ix H' = some r := by
  unfold indexAddrV at h ⊢
  obtain ⟨i, hi, h_⟩ := Option.bind_eq_some_iff.1 h; clear h; have h := h_; clear h_
  obtain ⟨d, hd, h_⟩ := Option.bind_eq_some_iff.1 h; clear h; have h := h_; clear h_
  simp only [hi, hd, Option.bind_eq_bind, Option.bind_some]
  split at h
  · exact h
  · exact h
  · rename_i e' b ver o sz len
    try simp only
    obtain ⟨row, g3, h_⟩ := Option.bind_eq_some_iff.1 h; clear h; have h := h_; clear h_
    have hb : r.rd = [b] := by
      obtain ⟨s, _, h_⟩ := Option.bind_eq_some_iff.1 h; clear h; have h := h_; clear h_
      split at h
      · cases h; rfl
      · cases h
    rw [rowOf_local (e b (by rw [hb]; simp)), g3]
    exact h
  · cases h
theorem lookupV_local {t : TypeId} {x ix : V} {ok : Bool} (h : lookupV X t x ix ok H = some r) (e : Agree H H' r.rd) : lookupV X t x ix ok H' = some r := by
  unfold lookupV at h ⊢
  obtain ⟨d, hd, h_⟩ := Option.bind_eq_some_iff.1 h; clear h; have h := h_; clear h_
  simp only [hd, Option.bind_eq_bind, Option.bind_some]
  split at h
  · rename_i kt et
    try simp only
    obtain ⟨dk, hk, h_⟩ := Option.bind_eq_some_iff.1 h; clear h; have h := h_; clear h_
    simp only [hk, Option.bind_some]
    split at h
    · cases h
    · rename_i hf
      rw [if_neg hf]
      obtain ⟨z, hz, h_⟩ := Option.bind_eq_some_iff.1 h; clear h; have h := h_; clear h_
      simp only [hz, Option.bind_some]
      try simp only at h
      split at h
      · exact h
      · rename_i b
        try simp only
        obtain ⟨es, h1, h_⟩ := Option.bind_eq_some_iff.1 h; clear h; have h := h_; clear h_
        obtain ⟨fk, h2, h_⟩ := Option.bind_eq_some_iff.1 h; clear h; have h := h_; clear h_
        have hb : r.rd = [b] := by
          split at h <;> (cases h; rfl)
        rw [mapOf_local (e b (by rw [hb]; simp)), h1]
        simp only [Option.bind_some, h2]
        exact h
      · cases h
  · cases h
theorem updateV_local {t : TypeId} {m k v : V} (h : updateV X t m k v H = some r) (e : Agree H H' r.rd) : updateV X t m k v H' = some r := by
  unfold updateV at h ⊢
  obtain ⟨d, hd, h_⟩ := Option.bind_eq_some_iff.1 h; clear h; have h := h_; clear h_
  simp only [hd, Option.bind_eq_bind, Option.bind_some]
  split at h
  · rename_i kt et
    try simp only
    obtain ⟨dk, hk, h_⟩ := Option.bind_eq_some_iff.1 h; clear h; have h := h_; clear h_
    simp only [hk, Option.bind_some]
    split at h
    · cases h
    · rename_i hf
      rw [if_neg hf]
      split at h
      · rename_i b
        try simp only
        obtain ⟨es, h1, h_⟩ := Option.bind_eq_some_iff.1 h; clear h; have h := h_; clear h_
        obtain ⟨fk, h2, h_⟩ := Option.bind_eq_some_iff.1 h; clear h; have h := h_; clear h_
        have hb : r.rd = [b] := by
          split at h
          · split at h
            · cases h; rfl
            · cases h
          · cases h; rfl
        rw [mapOf_local (e b (by rw [hb]; simp)), h1]
        simp only [Option.bind_some, h2]
        exact h
      · cases h
  · cases h
theorem nextV_local {it : V} {s : Bool} (h : nextV it s H = some r) (e : Agree H H' r.rd) : nextV it s H' = some r := by
  unfold nextV at h ⊢
  split at h
  · rename_i b
    try simp only
    have hb : r.rd = [b] := by
      split at h
      · split at h
        · cases h; rfl
        · cases h; rfl
      · cases h
    rw [e b (by rw [hb]; simp)]
    exact h
  · cases h
theorem nextMapV_local {it : V} (h : nextMapV it H = some r) (e : Agree H H' r.rd) : nextMapV it H' = some r := by
  unfold nextMapV at h ⊢
  split at h
  case h_2 => cases h
  rename_i b
  try simp only
  split at h
  · rename_i hg
    cases h
    rw [e b (by simp), hg]
  · rename_i m since seen last hg
    cases hm : mapOf H m with
    | none => rw [hm] at h; cases h
    | some es =>
      rw [hm] at h
      simp only at h
      split at h
      · cases h
      · rename_i hc
        have fin : b ∈ r.rd ∧ m ∈ r.rd := by
          split at h
          · split at h
            · cases h; simp
            · cases h
          · cases h; simp
          · cases h
        rw [e b fin.1, hg]
        simp only
        rw [mapOf_local (e m fin.2), hm]
        simp only
        rw [if_neg hc]
        exact h
  · cases h
theorem entryV_local {it : V} (h : entryV it H = some r) (e : Agree H H' r.rd) : entryV it H' = some r := by
  unfold entryV at h ⊢
  split at h
  case h_2 => cases h
  rename_i b
  try simp only
  split at h
  case h_2 => cases h
  rename_i m since seen last hg
  split at h
  case h_2 => cases h
  rename_i es i hm hl
  split at h
  case isFalse => cases h
  rename_i hc
  split at h
  · rename_i k v hget
    cases h
    rw [e b (by simp), hg]
    simp only
    rw [mapOf_local (e m (by simp)), hm, hl]
    simp only
    rw [if_pos hc, hget]
  · cases h
theorem appendV_local {st : TypeId} {xt : Option TypeId} {s x : V} {fresh : Nat → Nat} (h : appendV X st xt s x fresh H = some r) (e : Agree H H' r.rd) : appendV X st xt s x fresh H' = some r := by
  unfold appendV at h ⊢
  obtain ⟨d, hd, h_⟩ := Option.bind_eq_some_iff.1 h; clear h; have h := h_; clear h_
  simp only [hd, Option.bind_eq_bind, Option.bind_some]
  split at h
  · skip
    obtain ⟨sz, h1, h_⟩ := Option.bind_eq_some_iff.1 h; clear h; have h := h_; clear h_
    obtain ⟨by', h2, h_⟩ := Option.bind_eq_some_iff.1 h; clear h; have h := h_; clear h_
    obtain ⟨zs, h3, h_⟩ := Option.bind_eq_some_iff.1 h; clear h; have h := h_; clear h_
    obtain ⟨z, h4, h_⟩ := Option.bind_eq_some_iff.1 h; clear h; have h := h_; clear h_
    simp only [h1, h2, h3, h4, Option.bind_some]
    split at h
    · cases h
    · rename_i hc
      rw [if_neg hc]
      obtain ⟨⟨n, new, rd⟩, h5, h_⟩ := Option.bind_eq_some_iff.1 h; clear h; have h := h_; clear h_
      try simp only at h
      split at h
      · cases h
      · rename_i hc2
        have key : ∀ (g : srcCells H' x = some (n, new, rd)), _ := fun g => g
        split at h
        · have hb : r.rd = rd := by
            split at h
            · cases h; rfl
            · split at h
              · cases h; rfl
              · cases h
          rw [srcCells_local h5 (hb ▸ e)]
          simp only [Option.bind_some]
          rw [if_neg hc2]
          exact h
        · have hb : r.rd = rd := by
            split at h
            · cases h; rfl
            · split at h
              · cases h; rfl
              · cases h
          rw [srcCells_local h5 (hb ▸ e)]
          simp only [Option.bind_some]
          rw [if_neg hc2]
          exact h
        · rename_i b ver o sz' len
          obtain ⟨row, h6, h_⟩ := Option.bind_eq_some_iff.1 h; clear h; have h := h_; clear h_
          try simp only at h
          have hb : r.rd = b :: rd := by
            split at h
            · cases h; rfl
            · cases h
          rw [srcCells_local h5 (fun c hc => e c (by rw [hb]; exact List.mem_cons_of_mem _ hc))]
          try simp only [Option.bind_some]
          rw [if_neg hc2, rowOf_local (e b (by rw [hb]; simp)), h6]
          exact h
        · cases h
  · cases h
theorem appendT_local {st : TypeId} {xt : Option TypeId} {s x : V} {fresh : Nat → Nat} (h : appendT X st xt s x fresh H = some r) (e : Agree H H' r.rd) : appendT X st xt s x fresh H' = some r := by
  unfold appendT at h ⊢
  split at h
  · cases h1 : appendV X st xt .nilsl x fresh H with
    | none => rw [h1] at h; cases h
    | some r1 =>
      rw [h1] at h
      have hrd : r.rd = r1.rd := by
        split at h
        · rename_i r2 e2 he2 _
          cases he2
          split at h <;> cases h <;> rfl
        · cases h
      try simp only
      rw [appendV_local h1 (hrd ▸ e)]
      exact h
  · rename_i t b ver len
    cases h1 : appendV X st xt (.msl b ver 0 1 len) x fresh H with
    | none => rw [h1] at h; cases h
    | some r1 =>
      rw [h1] at h
      have hrd : r.rd = r1.rd := by
        split at h
        · rename_i r2 e2 he2 _
          cases he2
          split at h
          · split at h <;> cases h <;> rfl
          · cases h
        · cases h
      try simp only
      rw [appendV_local h1 (hrd ▸ e)]
      exact h
  · exact appendV_local h e
theorem copyV_local {st : TypeId} {d x : V} (h : copyV X st d x H = some r) (e : Agree H H' r.rd) : copyV X st d x H' = some r := by
  unfold copyV at h ⊢
  obtain ⟨dd, hd, h_⟩ := Option.bind_eq_some_iff.1 h; clear h; have h := h_; clear h_
  simp only [hd, Option.bind_eq_bind, Option.bind_some]
  split at h
  · skip
    obtain ⟨sz, h1, h_⟩ := Option.bind_eq_some_iff.1 h; clear h; have h := h_; clear h_
    obtain ⟨⟨n, cs, rd⟩, h5, h_⟩ := Option.bind_eq_some_iff.1 h; clear h; have h := h_; clear h_
    simp only [h1, Option.bind_some]
    try simp only at h
    split at h
    · cases h
    · rename_i hc2
      split at h
      · cases h
        rw [srcCells_local h5 e]
        simp only [Option.bind_some]
        rw [if_neg hc2]
      · cases h
        rw [srcCells_local h5 e]
        simp only [Option.bind_some]
        rw [if_neg hc2]
      · rename_i b ver o sz' len
        obtain ⟨row, h6, h_⟩ := Option.bind_eq_some_iff.1 h; clear h; have h := h_; clear h_
        try simp only at h
        have hb : r.rd = b :: rd := by
          split at h
          · cases h; rfl
          · cases h
        rw [srcCells_local h5 (fun c hc => e c (by rw [hb]; exact List.mem_cons_of_mem _ hc))]
        try simp only [Option.bind_some]
        rw [if_neg hc2, rowOf_local (e b (by rw [hb]; simp)), h6]
        exact h
      · cases h
  · cases h
theorem clearV_local {t : TypeId} {x : V} (h : clearV X t x H = some r) (e : Agree H H' r.rd) : clearV X t x H' = some r := by
  unfold clearV at h ⊢
  obtain ⟨dd, hd, h_⟩ := Option.bind_eq_some_iff.1 h; clear h; have h := h_; clear h_
  simp only [hd, Option.bind_eq_bind, Option.bind_some]
  split at h
  · skip
    obtain ⟨sz, h1, h_⟩ := Option.bind_eq_some_iff.1 h; clear h; have h := h_; clear h_
    obtain ⟨z, h2, h_⟩ := Option.bind_eq_some_iff.1 h; clear h; have h := h_; clear h_
    simp only [h1, h2, Option.bind_some]
    split at h
    · exact h
    · exact h
    · rename_i b ver o sz' len
      obtain ⟨row, h6, h_⟩ := Option.bind_eq_some_iff.1 h; clear h; have h := h_; clear h_
      try simp only at h
      have hb : r.rd = [b] := by
        split at h
        · cases h; rfl
        · cases h
      rw [rowOf_local (e b (by rw [hb]; simp)), h6]
      exact h
    · exact h
    · cases h
  · cases h
theorem lenV_local {t : TypeId} {x : V} (h : lenV X t x H = some r) (e : Agree H H' r.rd) : lenV X t x H' = some r := by
  unfold lenV at h ⊢
  obtain ⟨dd, hd, h_⟩ := Option.bind_eq_some_iff.1 h; clear h; have h := h_; clear h_
  simp only [hd, Option.bind_eq_bind, Option.bind_some]
  split at h
  case h_9 =>
    obtain ⟨es, h1, h_⟩ := Option.bind_eq_some_iff.1 h; clear h; have h := h_; clear h_
    cases h
    try simp only
    rw [mapOf_local (e _ (by simp)), h1]
    rfl
  all_goals first | exact h | cases h
theorem builtinV_local {b : Builtin} {ts : Array TypeId} {as : List V} {fresh : Nat → Nat} (h : builtinV X b ts as fresh H = some r) (e : Agree H H' r.rd) : builtinV X b ts as fresh H' = some r := by
  unfold builtinV at h ⊢
  split at h
  · exact appendT_local h e
  · exact copyV_local h e
  · exact clearV_local h e
  · exact lenV_local h e
  · exact h
  · exact h
  · exact h
  · cases h

mutual
theorem deep_congr {f g : V → V} : ∀ (v : V), (∀ b ver o sz len, b ∈ v.msls → f (.msl b ver o sz len) = g (.msl b ver o sz len)) → v.deep f = v.deep g
  | .iptr cs, h => by unfold V.deep; rw [deepL_congr cs (by unfold V.msls at h; exact h)]
  | .sl sz len cs, h => by unfold V.deep; rw [deepL_congr cs (by unfold V.msls at h; exact h)]
  | .func k x y, h => by
    unfold V.msls at h
    unfold V.deep
    rw [deepL_congr x (fun b ver o sz len hb => h b ver o sz len (List.mem_append.2 (.inl hb))), deepL_congr y (fun b ver o sz len hb => h b ver o sz len (List.mem_append.2 (.inr hb)))]
  | .iface t v, h => by unfold V.deep; rw [deep_congr v (by unfold V.msls at h; exact h)]
  | .agg cs, h => by unfold V.deep; rw [deepL_congr cs (by unfold V.msls at h; exact h)]
  | .tuple cs, h => by unfold V.deep; rw [deepL_congr cs (by unfold V.msls at h; exact h)]
  | .msl b ver o sz len, h => by unfold V.deep; exact h b ver o sz len (by unfold V.msls; simp)
  | .dead, h => by unfold V.deep; rfl
  | .junk, h => by unfold V.deep; rfl
  | .bool b, h => by unfold V.deep; rfl
  | .int k n, h => by unfold V.deep; rfl
  | .str s, h => by unfold V.deep; rfl
  | .nilptr, h => by unfold V.deep; rfl
  | .ptr b ver o, h => by unfold V.deep; rfl
  | .nilsl, h => by unfold V.deep; rfl
  | .slz, h => by unfold V.deep; rfl
  | .nilmap, h => by unfold V.deep; rfl
  | .map b, h => by unfold V.deep; rfl
  | .iter b, h => by unfold V.deep; rfl
  | .yield b, h => by unfold V.deep; rfl
  | .tptr .., h => by unfold V.deep; rfl
  | .tsl .., h => by unfold V.deep; rfl
  | .tnil, h => by unfold V.deep; rfl
  | .nilfunc, h => by unfold V.deep; rfl
  | .niliface, h => by unfold V.deep; rfl
theorem deepL_congr {f g : V → V} : ∀ (l : List V), (∀ b ver o sz len, b ∈ mslsL l → f (.msl b ver o sz len) = g (.msl b ver o sz len)) → deepL f l = deepL g l
  | [], h => by unfold deepL; rfl
  | v :: r, h => by
    unfold mslsL at h
    unfold deepL
    rw [deep_congr v (fun b ver o sz len hb => h b ver o sz len (List.mem_append.2 (.inl hb))), deepL_congr r (fun b ver o sz len hb => h b ver o sz len (List.mem_append.2 (.inr hb)))]
end

theorem resolve_local : ∀ (n : Nat) (v v' : V) (l : List Nat), resolve H n v = (v', l) → Agree H H' l → resolve H' n v = (v', l)
  | 0, v, v', l, h, e => h
  | n + 1, v, v', l, h, e => by
    unfold resolve at h ⊢
    split at h
    · exact h
    · rename_i l0 hne
      generalize hg : resolve H n (v.deep (V.resolve1 H)) = q at h
      obtain ⟨v1, l1⟩ := q
      simp only [Prod.mk.injEq] at h
      obtain ⟨rfl, rfl⟩ := h
      have hd : v.deep (V.resolve1 H') = v.deep (V.resolve1 H) := deep_congr v fun b ver o sz len hb => by
        simp only [V.resolve1]
        rw [rowOf_local (e b (List.mem_append.2 (.inl hb)))]
      rw [hd, resolve_local n _ _ _ hg (fun b hb => e b (List.mem_append.2 (.inr hb)))]
theorem freezeRows_local : ∀ (l : List Nat) (H H' : Heap) (b : Nat), H'.get b = H.get b → (freezeRows H' l).get b = (freezeRows H l).get b
  | [], H, H', b, e => e
  | c :: l, H, H', b, e => by
    show (freezeRows (freezeRow H' c) l).get b = (freezeRows (freezeRow H c) l).get b
    refine freezeRows_local l _ _ b ?_
    rw [freezeRow_get, freezeRow_get]
    by_cases h : b = c
    · subst h; rw [if_pos rfl, if_pos rfl, e]
    · rw [if_neg h, if_neg h, e]
theorem reachGo_sub (H : Heap) : ∀ (n : Nat) (todo seen l : List Nat), reachGo H n todo seen = some l → ∀ b ∈ seen, b ∈ l
  | 0, todo, seen, l, h, b, hb => by unfold reachGo at h; cases h; simpa using hb
  | n + 1, [], seen, l, h, b, hb => by unfold reachGo at h; cases h; simpa using hb
  | n + 1, c :: todo, seen, l, h, b, hb => by
    unfold reachGo at h
    split at h
    · exact reachGo_sub H n _ _ _ h b hb
    · split at h
      · exact reachGo_sub H n _ _ _ h b (List.mem_cons_of_mem _ hb)
      · cases h
theorem reachGo_local : ∀ (n : Nat) (todo seen l : List Nat), reachGo H n todo seen = some l → Agree H H' l → reachGo H' n todo seen = some l
  | 0, todo, seen, l, h, e => by unfold reachGo at h ⊢; exact h
  | n + 1, [], seen, l, h, e => by unfold reachGo at h ⊢; exact h
  | n + 1, c :: todo, seen, l, h, e => by
    unfold reachGo at h ⊢
    split at h
    · rename_i hc
      rw [if_pos hc]
      exact reachGo_local n _ _ _ h e
    · rename_i hc
      rw [if_neg hc]
      split at h
      · rename_i x hx
        have hm : c ∈ l := reachGo_sub H n _ _ _ h c List.mem_cons_self
        rw [e c hm, hx]
        exact reachGo_local n _ _ _ h e
      · cases h
theorem reach_local {rs l : List Nat} (h : reach H rs = some l) (e : Agree H H' l) : reach H' rs = some l := by
  unfold reach at h ⊢
  split at h
  · rename_i hc; rw [if_pos hc]; exact h
  · rename_i hc; rw [if_neg hc]; exact reachGo_local _ _ _ _ h e
theorem subHeap_local {l : List Nat} (e : Agree H H' l) : subHeap H' l = subHeap H l := by
  unfold subHeap
  exact List.map_congr_left fun b hb => by rw [e b hb]

theorem filterMap_congr' {α β : Type} {f g : α → Option β} : ∀ {l : List α}, (∀ x ∈ l, f x = g x) → l.filterMap f = l.filterMap g
  | [], _ => rfl
  | x :: l, h => by
    have ih := filterMap_congr' (l := l) fun y hy => h y (List.mem_cons_of_mem _ hy)
    simp only [List.filterMap_cons, h x List.mem_cons_self, ih]
theorem callP_local {mu : Bool} {call : CallFn} {f : FuncId} {as : List V} {fresh : Nat → Nat} (h : callP mu call f as fresh H = some r) (e : Agree H H' r.rd) : callP mu call f as fresh H' = some r := by
    unfold callP at h ⊢
    simp only at h ⊢
    generalize havf : (if mu = true then (V.tuple as, []) else resolve H 4 (.tuple as)) = avf at h
    obtain ⟨av, frz⟩ := avf
    try simp only at h
    have hfrz : Agree H H' frz → (if mu = true then (V.tuple as, []) else resolve H' 4 (.tuple as)) = (av, frz) := fun ef => by
      by_cases hm : mu = true
      · rw [if_pos hm] at havf ⊢; exact havf
      · rw [if_neg hm] at havf ⊢; exact resolve_local 4 _ _ _ havf ef
    cases av with
    | tuple args =>
      try simp only at h
      cases hlg : reach (freezeRows H frz) (refsL args) with
      | none => rw [hlg] at h; cases h
      | some l =>
        rw [hlg] at h
        try simp only at h
        have fin : ∀ (ef : Agree H H' frz) (el : Agree H H' l), reach (freezeRows H' frz) (refsL args) = some l ∧ subHeap (freezeRows H' frz) l = subHeap (freezeRows H frz) l := fun ef el =>
          ⟨reach_local hlg fun b hb => freezeRows_local frz H H' b (el b hb), subHeap_local fun b hb => freezeRows_local frz H H' b (el b hb)⟩
        cases hcall : call f (renL (indexOf · l 0) args) (subHeap (freezeRows H frz) l) with
        | none => rw [hcall] at h; cases h
        | some rh =>
          obtain ⟨v, H2⟩ := rh
          rw [hcall] at h
          try simp only at h
          split at h
          · rename_i hc
            cases h
            have hl0 : l = [] := by
              simp only [Bool.and_eq_true, List.isEmpty_iff] at hc
              exact hc.1.1
            obtain ⟨g1, g2⟩ := fin e (fun b hb => by rw [hl0] at hb; cases hb)
            rw [hfrz e]
            simp only
            rw [g1]
            simp only
            rw [g2, hcall]
            simp only
            rw [if_pos hc]
          · rename_i hc
            split at h
            · rename_i hc2
              cases h
              have ef : Agree H H' frz := fun b hb => e b (List.mem_append.2 (.inl hb))
              have el : Agree H H' l := fun b hb => e b (List.mem_append.2 (.inr (List.mem_append.2 (.inl hb))))
              obtain ⟨g1, g2⟩ := fin ef el
              rw [hfrz ef]
              simp only
              rw [g1]
              simp only
              rw [g2, hcall]
              simp only
              rw [if_neg hc, if_pos hc2]
              refine congrArg some ?_
              congr 1
              refine filterMap_congr' fun b hb => ?_
              congr 1
              unfold mergeAt
              cases indexOf b (l ++ (List.range (H2.length - l.length)).map fresh) 0 with
              | some j => rfl
              | none => exact freezeRows_local frz H H' b (e b hb)
            · cases h
    | _ => cases h
theorem callV_local {call : CallFn} {f : FuncId} {as : List V} {fresh : Nat → Nat} (h : callV X call f as fresh H = some r) (e : Agree H H' r.rd) : callV X call f as fresh H' = some r := by
  unfold callV at h ⊢
  cases hx : X.ext f with
  | some F => rw [hx] at h; exact h
  | none =>
    rw [hx] at h
    simp only at h ⊢
    split at h
    · cases h
    · rename_i hn; rw [if_neg hn]; exact callP_local h e
end
end Go.Ev
/- An operation leans on what it reads, and on its operands. -/
set_option linter.unusedSectionVars false
set_option linter.unusedSimpArgs false
set_option linter.unusedVariables false
namespace Go.Ev
open Go
section
variable {X : Ctx} {H H' : Heap} {r : Res} {o : Oper} {call : CallFn} {fresh : Nat → Nat} {ρ ρ' : Operand → V}

theorem evOpR_local (h : evOpR X call o fresh ρ H = some r) (e : Agree H H' r.rd) : evOpR X call o fresh ρ H' = some r := by
  unfold evOpR at h ⊢
  generalize o.op = op at h ⊢
  cases op
  case load t a =>
    simp only at h ⊢
    obtain ⟨⟨cs, rd⟩, hp, h⟩ := Option.bind_eq_some_iff.1 h
    obtain ⟨ag, hag, h⟩ := Option.bind_eq_some_iff.1 h
    obtain ⟨n, hn, h⟩ := Option.bind_eq_some_iff.1 h
    obtain ⟨v, hv, h⟩ := Option.bind_eq_some_iff.1 h
    cases h
    rw [cellsAt_local hp e]
    simp only [Option.bind_eq_bind, Option.bind_some, hag, hn, hv]
  case store t a x =>
    simp only at h ⊢
    obtain ⟨n, hn, h⟩ := Option.bind_eq_some_iff.1 h
    simp only [hn, Option.bind_eq_bind, Option.bind_some]
    split at h
    · rename_i hc; rw [if_pos hc]; exact storeAt_local h e
    · cases h
  case insert t m k x => exact updateV_local h e
  case mapUpdate t m k x => exact updateV_local h e
  case convert s d x => exact convV_local h e
  case slice t x lo hi mx => exact sliceV_local h e
  case indexAddr t x ix => exact indexAddrV_local h e
  case lookup t x ix ok => exact lookupV_local h e
  case next it s =>
    cases s with
    | true => exact nextV_local h e
    | false => exact nextMapV_local h e
  case entry it => exact entryV_local h e
  case range t x =>
    simp only at h ⊢
    split at h
    · rename_i hu hx; cases h; first | rfl | (simp only [hu, hx])
    · rename_i hu hx
      split at h
      · rename_i es hm
        cases h
        first
          | (simp only [hu, hx]; rw [mapOf_local (e _ (by simp)), hm])
          | (rw [mapOf_local (e _ (by simp)), hm])
      · cases h
    · rename_i hu hx; cases h; first | rfl | (simp only [hu, hx])
    · cases h
  case call c =>
    simp only at h ⊢
    split at h
    · exact builtinV_local h e
    · split at h
      · exact callV_local h e
      · split at h
        · split at h
          · first | exact callV_local h e | (simp only [*]; exact callV_local h e)
          · cases h
        · cases h
      · first | exact callP_local h e | (simp only [*]; exact callP_local h e)
      · cases h
    · split at h
      · split at h
        · first | exact callV_local h e | (simp only [*]; exact callV_local h e)
        · cases h
      · cases h
  all_goals exact h

theorem evOpR_congr (h : ∀ x ∈ o.op.operands, ρ x = ρ' x) : evOpR X call o fresh ρ H = evOpR X call o fresh ρ' H := by
  unfold evOpR
  generalize o.op = op at h
  have pairs : ∀ ps : Array (Nat × Operand), (∀ x ∈ ps.map (·.2), ρ x = ρ' x) → (ps.toList.map fun p => (p.1, ρ p.2)) = (ps.toList.map fun p => (p.1, ρ' p.2)) := fun ps hp =>
    List.map_congr_left fun p hm => by rw [hp p.2 (Array.mem_map.2 ⟨p, Array.mem_toList_iff.1 hm, rfl⟩)]
  have list : ∀ ps : Array Operand, (∀ x ∈ ps, ρ x = ρ' x) → ps.toList.map ρ = ps.toList.map ρ' := fun ps hp =>
    List.map_congr_left fun p hm => hp p (Array.mem_toList_iff.1 hm)
  cases op <;> simp only [Op.operands] at h <;> simp only
  case build t ps => rw [pairs ps fun x hx => h x (by simpa using hx)]
  case buildSlice t n ps => rw [pairs ps fun x hx => h x (by simpa using hx)]
  case makeFunc fn first captured => rw [list first fun x hx => h x (by simp [hx]), list captured fun x hx => h x (by simp [hx])]
  case call c =>
    have ha : c.args.toList.map ρ = c.args.toList.map ρ' := list c.args fun x hx => h x (by simp [Call.operands, hx])
    simp only [ha]
    cases hc : c.callee with
    | value f => have hf : ρ f = ρ' f := h f (by simp [Call.operands, hc]); simp only [hf]
    | invoke r m => have hr : ρ r = ρ' r := h r (by simp [Call.operands, hc]); simp only [hr]
    | builtin b => rfl
  case makeMap t r => cases r <;> simp_all
  case slice t x lo hi mx => cases lo <;> cases hi <;> cases mx <;> simp_all
  case next it b => cases b <;> simp_all
  all_goals (first | rfl | (simp_all; done))
end
end Go.Ev
