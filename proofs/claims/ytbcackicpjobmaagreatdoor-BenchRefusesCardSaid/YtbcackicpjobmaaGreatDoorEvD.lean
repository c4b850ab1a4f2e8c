/- A part of the proof of BenchRefuses: no statement of the seat's stands here. -/
import Derived.Laws.Build
import Derived.Test.YtbcackicpjobmaaGreatDoorEvC
set_option linter.unusedSectionVars false
set_option linter.unusedSimpArgs false
set_option linter.unusedVariables false
set_option linter.all false
/- Equality; binary and unary operators. -/
set_option linter.unusedSectionVars false
set_option linter.unusedSimpArgs false
set_option linter.unusedVariables false
namespace Go.Ev
open Go
section
variable {X : Ctx} {B : Mem} {w : World} {M : Mem} {ρ : Rho} {H : Heap}

/-- What a value looks like. -/
def Shape : V → Value → Prop
  | .ptr .., c | .iptr _, c => ∃ a, c = .pointer (some a)
  | .slz, c | .sl .., c | .msl .., c => ∃ a l k, c = .slice (some a) l k
  | .map _, c => ∃ r, c = .map (some r)
  | .func .., c => ∃ f a b, c = .func f a b
  | .iface .., c => ∃ t v, c = .iface t v
  | .nilptr, c => c = .pointer none
  | .nilsl, c => c = .slice none 0 0
  | .nilmap, c => c = .map none
  | .nilfunc, c => c = .nilFunc
  | .niliface, c => c = .nilIface
  | _, _ => True
theorem VRel.shape {x : V} {c : Value} (h : VRel M ρ x c) : Shape x c := by
  cases x <;> unfold VRel at h <;> unfold Shape <;> first
    | trivial
    | exact h
    | (obtain ⟨p, a, _, _, rfl, _⟩ := h; exact ⟨_, rfl⟩)
    | (obtain ⟨a, rfl, _⟩ := h; exact ⟨_, rfl⟩)
    | (obtain ⟨a, rfl⟩ := h; exact ⟨_, _, _, rfl⟩)
    | (obtain ⟨a, cap, rfl, _⟩ := h; exact ⟨_, _, _, rfl⟩)
    | (obtain ⟨p, a, cap, _, _, _, rfl, _⟩ := h; exact ⟨_, _, _, rfl⟩)
    | (obtain ⟨p, _, _, rfl⟩ := h; exact ⟨_, rfl⟩)
    | (obtain ⟨a, b, rfl, _⟩ := h; exact ⟨_, _, _, rfl⟩)
    | (obtain ⟨a, rfl, _⟩ := h; exact ⟨_, _, rfl⟩)

set_option maxHeartbeats 1000000 in
theorem eqAt_run {t : TypeId} {d : TypeDesc} (hd : und X t = some d) {x y : V} {b : Bool} (h : eqAt d x y = some b) {cx cy : Value} (hx : VRel M ρ x cx) (hy : VRel M ρ y cy) (D : Nat) (w : World) :
    (Op.equalIn (D + 1) t cx cy).run X.P w = .ok b w := by
  have sx := hx.shape
  have sy := hy.shape
  unfold eqAt at h
  split at h
  case h_1 => cases h; unfold VRel at hx hy; subst hx; subst hy; simp [Op.equalIn, run_und hd]
  case h_2 =>
    unfold VRel at hx hy
    subst hx; subst hy
    split at h
    · rename_i e; cases h; subst e; simp [Op.equalIn, run_und hd, Bool.beq_eq_decide_eq]
    · cases h
  case h_3 =>
    unfold VRel at hx hy
    obtain ⟨p, rfl, rfl⟩ := hx
    obtain ⟨q, rfl, rfl⟩ := hy
    cases h
    simp [Op.equalIn, run_und hd, sameBytes_eq, beq_toListBytes, ByteArray.toList_eq]
  all_goals (try cases h)
  all_goals clear hx hy
  all_goals simp only [Shape] at sx sy
  all_goals (try (obtain ⟨a1, a2, a3, rfl⟩ := sx))
  all_goals (try (obtain ⟨a1, a2, rfl⟩ := sx))
  all_goals (try (obtain ⟨a1, rfl⟩ := sx))
  all_goals (try subst sx)
  all_goals (try (obtain ⟨a1, a2, a3, rfl⟩ := sy))
  all_goals (try (obtain ⟨a1, a2, rfl⟩ := sy))
  all_goals (try (obtain ⟨a1, rfl⟩ := sy))
  all_goals (try subst sy)
  all_goals simp [Op.equalIn, run_und hd]

/-- A value, by its cells. -/
def ValOf (X : Ctx) (M : Mem) (ρ : Rho) (t : TypeId) (xs : List V) (c : Value) : Prop :=
  (aggT X t = some true → ∃ cs, c = .agg cs ∧ LRel M ρ xs cs.toList) ∧ (aggT X t = some false → ∀ x, xs = [x] → VRel M ρ x c)

theorem part_run {t : TypeId} {n off : Nat} {cells : List V} {cs : Array Value} {ag : Bool} (ha : aggT X t = some ag) (hn : size X t = some n) (hc : LRel M ρ cells cs.toList) (hle : off + n ≤ cells.length) (h1 : 1 ≤ n ∨ ag = true) (w : World) :
    ∃ c, (part t cs off).run X.P w = .ok c w ∧ ValOf X M ρ t ((cells.drop off).take n) c := by
  cases ag with
  | true =>
    refine ⟨.agg (cs.extract off (off + n)), by simp [part, run_agg ha, run_size hn], fun _ => ⟨_, rfl, ?_⟩, fun e => by rw [ha] at e; cases e⟩
    have : (cs.extract off (off + n)).toList = (cs.toList.drop off).take n := by simp
    rw [this]
    exact (hc.drop off).take n
  | false =>
    have h1' : 1 ≤ n := h1.resolve_right (by simp)
    have hlt : off < cells.length := by omega
    obtain ⟨c, hcc, hr⟩ := hc.get (List.getElem?_eq_getElem hlt)
    have hcc' : cs[off]? = some c := by simpa using hcc
    refine ⟨c, by simp [part, run_agg ha, hcc'], (by intro e; rw [ha] at e; cases e), fun _ x hx => ?_⟩
    have : ((cells.drop off).take n)[0]? = some x := by rw [hx]; rfl
    rw [List.getElem?_take, if_pos (by omega), List.getElem?_drop, Nat.add_zero, List.getElem?_eq_getElem hlt] at this
    cases this
    exact hr

theorem eqT_run : ∀ d : Nat,
    (∀ t xs ys b, eqT X d t xs ys = some b → ∀ D, d ≤ D → ∀ cx cy w, ValOf X M ρ t xs cx → ValOf X M ρ t ys cy → (Op.equalIn D t cx cy).run X.P w = .ok b w) ∧
    (∀ fs xs ys b, eqFields X d fs xs ys = some b → ∀ D, d ≤ D → ∀ (cx cy : Array Value) w, LRel M ρ xs cx.toList → LRel M ρ ys cy.toList → (Op.eqFields D cx cy fs).run X.P w = .ok b w) ∧
    (∀ n e is xs ys b, size X e = some n → eqElems X d n e is xs ys = some b → ∀ D, d ≤ D → ∀ (cx cy : Array Value) w, LRel M ρ xs cx.toList → LRel M ρ ys cy.toList → (Op.eqItems D e n cx cy is).run X.P w = .ok b w)
  | 0 => ⟨fun _ _ _ _ h => by simp [eqT] at h, fun _ _ _ _ h => by simp [eqFields] at h, fun _ _ _ _ _ _ _ h => by simp [eqElems] at h⟩
  | d + 1 => by
    obtain ⟨iT, iF, iE⟩ := eqT_run d
    have step : ∀ (t : TypeId) (n off : Nat) (xs ys : List V) (b : Bool), size X t = some n → off + n ≤ xs.length → off + n ≤ ys.length → eqT X d t ((xs.drop off).take n) ((ys.drop off).take n) = some b →
        ∀ D, d ≤ D → ∀ (cx cy : Array Value) w, LRel M ρ xs cx.toList → LRel M ρ ys cy.toList → ∃ p q, (part t cx off).run X.P w = .ok p w ∧ (part t cy off).run X.P w = .ok q w ∧ (Op.equalIn D t p q).run X.P w = .ok b w := by
      intro t n off xs ys b hn h1 h2 hb D hD cx cy w hx hy
      have hag : ∃ ag, aggT X t = some ag ∧ (1 ≤ n ∨ ag = true) := by
        cases d with
        | zero => simp [eqT] at hb
        | succ d =>
          unfold eqT at hb
          cases hu : und X t with
          | none => rw [hu] at hb; cases hb
          | some ds =>
            rw [hu] at hb
            simp only [Option.bind_eq_bind, Option.bind_some] at hb
            unfold aggT
            rw [hu]
            rcases Nat.eq_zero_or_pos n with h0 | h0
            · subst h0
              cases ds <;> first | exact ⟨true, rfl, .inr rfl⟩ | (simp [eqOne] at hb; done)
            · exact ⟨_, rfl, .inl h0⟩
      obtain ⟨ag, ha, h3⟩ := hag
      obtain ⟨p, hp, vp⟩ := part_run ha hn hx h1 h3 w
      obtain ⟨q, hq, vq⟩ := part_run ha hn hy h2 h3 w
      exact ⟨p, q, hp, hq, iT _ _ _ _ hb D hD _ _ _ vp vq⟩
    refine ⟨fun t xs ys b h D hD cx cy w hx hy => ?_, fun fs xs ys b h D hD cx cy w hx hy => ?_, fun n e is xs ys b hn h D hD cx cy w hx hy => ?_⟩
    · obtain ⟨D', rfl⟩ : ∃ k, D = k + 1 := ⟨D - 1, by omega⟩
      unfold eqT at h
      cases hu : und X t with
      | none => rw [hu] at h; cases h
      | some ds =>
        rw [hu] at h
        simp only [Option.bind_eq_bind, Option.bind_some] at h
        have scal : aggT X t = some false → eqOne ds xs ys = some b → (Op.equalIn (D' + 1) t cx cy).run X.P w = .ok b w := by
          intro ha h
          unfold eqOne at h
          split at h
          · exact eqAt_run hu h (hx.2 ha _ rfl) (hy.2 ha _ rfl) D' w
          · cases h
        cases ds with
        | struct fs =>
          simp only at h
          split at h
          · cases h
          · rename_i hs
            have ha : aggT X t = some true := by unfold aggT; rw [hu]; rfl
            obtain ⟨cs, rfl, hr⟩ := hx.1 ha
            obtain ⟨cs', rfl, hr'⟩ := hy.1 ha
            have hf : X.P.fieldsOf t = fs := by unfold Program.fieldsOf; unfold und at hu; rw [hu]
            rw [run_equalIn_struct w D' t cs cs' (by rw [hf]; exact hu) (by simpa using hs), hf]
            exact iF _ _ _ _ h D' (by omega) _ _ _ hr hr'
        | array len e =>
          simp only at h
          cases hn : size X e with
          | none => rw [hn] at h; cases h
          | some n =>
            rw [hn] at h
            simp only [Option.bind_some] at h
            have ha : aggT X t = some true := by unfold aggT; rw [hu]; rfl
            obtain ⟨cs, rfl, hr⟩ := hx.1 ha
            obtain ⟨cs', rfl, hr'⟩ := hy.1 ha
            have hi : ∃ i, X.P.info? e = some i := by
              unfold size at hn
              cases hi : X.P.info? e with
              | none => rw [hi] at hn; cases hn
              | some i => exact ⟨i, rfl⟩
            obtain ⟨i, hi⟩ := hi
            have hc : X.P.cellsOf e = n := by unfold Program.cellsOf; unfold size at hn; rw [hn]; rfl
            rw [run_equalIn_array w D' cs cs' hu hi, hc]
            exact iE _ _ _ _ _ _ hn h D' (by omega) _ _ _ hr hr'
        | _ => exact scal (by unfold aggT; rw [hu]; rfl) h
    · cases fs with
      | nil => simp only [eqFields, Option.some.injEq] at h; subst h; rfl
      | cons f r =>
        simp only [eqFields] at h
        split at h
        · rename_i hname
          simp only [Op.eqFields, hname, ne_eq, not_true, if_false]
          exact iF _ _ _ _ h D (by omega) _ _ _ hx hy
        · rename_i hname
          cases hn : size X f.type with
          | none => rw [hn] at h; cases h
          | some n =>
            rw [hn] at h
            simp only [Option.bind_eq_bind, Option.bind_some] at h
            split at h
            · rename_i hle
              simp only [Bool.and_eq_true, decide_eq_true_eq] at hle
              cases hb : eqT X d f.type ((xs.drop f.offset).take n) ((ys.drop f.offset).take n) with
              | none => rw [hb] at h; cases h
              | some b0 =>
                rw [hb] at h
                obtain ⟨p, q, hp, hq, he⟩ := step f.type n f.offset xs ys b0 hn hle.1 hle.2 hb D (by omega) cx cy w hx hy
                simp only [Op.eqFields, ne_eq, hname, not_false_eq_true, if_true, Sem.run_bind, hp, hq, he, Result.andThen_ok]
                cases b0
                · simp at h; subst h; simp
                · simp at h ⊢; exact iF _ _ _ _ h D (by omega) _ _ _ hx hy
            · cases h
    · cases is with
      | nil => simp only [eqElems, Option.some.injEq] at h; subst h; rfl
      | cons i r =>
        simp only [eqElems, Option.bind_eq_bind] at h
        split at h
        · rename_i hle
          simp only [Bool.and_eq_true, decide_eq_true_eq] at hle
          cases hb : eqT X d e ((xs.drop (i * n)).take n) ((ys.drop (i * n)).take n) with
          | none => rw [hb] at h; cases h
          | some b0 =>
            rw [hb] at h
            obtain ⟨p, q, hp, hq, he⟩ := step e n (i * n) xs ys b0 hn hle.1 hle.2 hb D (by omega) cx cy w hx hy
            simp only [Op.eqItems, Sem.run_bind, hp, hq, he, Result.andThen_ok]
            cases b0
            · simp at h; subst h; simp
            · simp at h ⊢; exact iE _ _ _ _ _ _ hn h D (by omega) _ _ _ hx hy
        · cases h

theorem eqGuard_plain (op : BinOp) (t : TypeId) (ox oy : Operand) (cx cy : Value) (h1 : ¬ (cx = .nilIface ∧ cy = .nilIface)) (h2 : ¬ (∃ a b, cx = .agg a ∧ cy = .agg b)) (P : Program) (w : World) :
    (eqGuard op t ox oy cx cy).run P w = .ok () w := by
  cases cx with
  | agg a => cases cy <;> first | exact absurd ⟨_, _, rfl, rfl⟩ h2 | (cases op <;> rfl)
  | nilIface => cases cy <;> first | exact absurd ⟨rfl, rfl⟩ h1 | (cases op <;> rfl)
  | _ => cases op <;> rfl

theorem equalV_run {t : TypeId} {x y : V} {b : Bool} (h : equalV X t x y = some b) {cx cy : Value} (hx : VRel M ρ x cx) (hy : VRel M ρ y cy) (w : World) :
    (Op.equal t cx cy).run X.P w = .ok b w ∧ ∀ op ox oy, (eqGuard op t ox oy cx cy).run X.P w = .ok () w := by
  unfold equalV at h
  split at h
  · rename_i xs ys
    split at h
    · cases h
    · rename_i hg
      unfold VRel at hx hy
      obtain ⟨cs, rfl, hr⟩ := hx
      obtain ⟨cs', rfl, hr'⟩ := hy
      refine ⟨?_, fun op ox oy => run_eqGuard_agg w op t ox oy cs cs' (by simp only [Bool.or_eq_true, not_or] at hg; simpa using hg.1)⟩
      unfold Op.equal
      simp only [Bool.or_eq_true, bne_iff_ne, ne_eq, not_or, Decidable.not_not] at hg
      have ha := hg.2
      exact (eqT_run (M := M) (ρ := ρ) eqDepth).1 _ _ _ _ h _ (by decide) _ _ _ ⟨fun _ => ⟨cs, rfl, hr⟩, fun e => by rw [ha] at e; cases e⟩ ⟨fun _ => ⟨cs', rfl, hr'⟩, fun e => by rw [ha] at e; cases e⟩
  · rename_i x y hne
    cases hu : und X t with
    | none => rw [hu] at h; cases h
    | some ds =>
      rw [hu] at h
      simp only [Option.bind_eq_bind, Option.bind_some] at h
      refine ⟨eqAt_run hu h hx hy 9999 w, fun op ox oy => ?_⟩
      have : ¬ (cx = .nilIface ∧ cy = .nilIface) ∧ ¬ (∃ a b, cx = .agg a ∧ cy = .agg b) := by
        refine ⟨fun ⟨e1, e2⟩ => ?_, fun ⟨a, b, e1, e2⟩ => ?_⟩
        all_goals
          subst e1; subst e2
          have sx := hx.shape
          have sy := hy.shape
          unfold eqAt at h
          split at h <;> simp [Shape] at sx sy <;> (try unfold VRel at hx) <;> (try unfold VRel at hy) <;> (try cases h) <;> first
            | (cases hx; done)
            | (obtain ⟨_, e, _⟩ := hx; cases e; done)
      exact eqGuard_plain op t ox oy cx cy this.1 this.2 X.P w
end
end Go.Ev
/- The operations, one by one. -/
set_option linter.unusedSectionVars false
set_option linter.unusedSimpArgs false
set_option linter.unusedVariables false
namespace Go.Ev
open Go
section
variable {X : Ctx} {B : Mem} {w : World} {M : Mem} {ρ : Rho} {H : Heap} {tm : List V} {a : Act} {o : Oper} {r : Res}

/-- Two values that '==' holds together by 'equal'. -/
theorem binOp_equal {cx cy : Value} (t : TypeId) (h : (∃ a b, cx = .bool a ∧ cy = .bool b) ∨ (∃ a b, cx = .agg a ∧ cy = .agg b) ∨ (∃ a b, cx = .pointer a ∧ cy = .pointer b) ∨
    (∃ a n k b m l, cx = .slice a n k ∧ cy = .slice b m l) ∨ (∃ a b, cx = .map a ∧ cy = .map b) ∨ ((cx = .nilFunc ∨ ∃ f a b, cx = .func f a b) ∧ (cy = .nilFunc ∨ ∃ f a b, cy = .func f a b)) ∨
    ((cx = .nilIface ∨ ∃ f a, cx = .iface f a) ∧ (cy = .nilIface ∨ ∃ f a, cy = .iface f a))) :
    binOp .eql t cx cy = (do pure (.bool (← Op.equal t cx cy))) ∧ binOp .neq t cx cy = (do pure (.bool (!(← Op.equal t cx cy)))) := by
  rcases h with ⟨a, b, rfl, rfl⟩ | ⟨a, b, rfl, rfl⟩ | ⟨a, b, rfl, rfl⟩ | ⟨a, n, k, b, m, l, rfl, rfl⟩ | ⟨a, b, rfl, rfl⟩ | ⟨h1, h2⟩ | ⟨h1, h2⟩
  · exact ⟨rfl, rfl⟩
  · exact ⟨rfl, rfl⟩
  · exact ⟨rfl, rfl⟩
  · exact ⟨rfl, rfl⟩
  · exact ⟨rfl, rfl⟩
  · rcases h1 with rfl | ⟨f, a, b, rfl⟩ <;> rcases h2 with rfl | ⟨f, a, b, rfl⟩ <;> exact ⟨rfl, rfl⟩
  · rcases h1 with rfl | ⟨f, a, rfl⟩ <;> rcases h2 with rfl | ⟨f, a, rfl⟩ <;> exact ⟨rfl, rfl⟩

theorem equalV_kinds {t : TypeId} {x y : V} {b : Bool} (h : equalV X t x y = some b) {cx cy : Value} (hx : VRel M ρ x cx) (hy : VRel M ρ y cy)
    (hi : ¬ ((∃ k n, x = .int k n) ∧ (∃ k n, y = .int k n))) (hs : ¬ ((∃ s, x = .str s) ∧ (∃ s, y = .str s))) :
    binOp .eql t cx cy = (do pure (.bool (← Op.equal t cx cy))) ∧ binOp .neq t cx cy = (do pure (.bool (!(← Op.equal t cx cy)))) := by
  refine binOp_equal t ?_
  unfold equalV at h
  split at h
  · unfold VRel at hx hy
    obtain ⟨a, rfl, _⟩ := hx
    obtain ⟨b, rfl, _⟩ := hy
    exact .inr (.inl ⟨_, _, rfl, rfl⟩)
  · cases hu : und X t with
    | none => rw [hu] at h; cases h
    | some ds =>
      rw [hu] at h
      simp only [Option.bind_eq_bind, Option.bind_some] at h
      have sx := hx.shape
      have sy := hy.shape
      unfold eqAt at h
      split at h <;> (try cases h)
      case h_1 => unfold VRel at hx hy; exact .inl ⟨_, _, hx, hy⟩
      case h_2 => exact absurd ⟨⟨_, _, rfl⟩, ⟨_, _, rfl⟩⟩ hi
      case h_3 => exact absurd ⟨⟨_, rfl⟩, ⟨_, rfl⟩⟩ hs
      all_goals clear hx hy
      all_goals simp only [Shape] at sx sy
      all_goals (try (obtain ⟨a1, a2, a3, rfl⟩ := sx))
      all_goals (try (obtain ⟨a1, a2, rfl⟩ := sx))
      all_goals (try (obtain ⟨a1, rfl⟩ := sx))
      all_goals (try subst sx)
      all_goals (try (obtain ⟨b1, b2, b3, rfl⟩ := sy))
      all_goals (try (obtain ⟨b1, b2, rfl⟩ := sy))
      all_goals (try (obtain ⟨b1, rfl⟩ := sy))
      all_goals (try subst sy)
      all_goals first
        | exact .inr (.inr (.inl ⟨_, _, rfl, rfl⟩))
        | exact .inr (.inr (.inr (.inl ⟨_, _, _, _, _, _, rfl, rfl⟩)))
        | exact .inr (.inr (.inr (.inr (.inl ⟨_, _, rfl, rfl⟩))))
        | exact .inr (.inr (.inr (.inr (.inr (.inl ⟨.inl rfl, .inl rfl⟩)))))
        | exact .inr (.inr (.inr (.inr (.inr (.inl ⟨.inl rfl, .inr ⟨_, _, _, rfl⟩⟩)))))
        | exact .inr (.inr (.inr (.inr (.inr (.inl ⟨.inr ⟨_, _, _, rfl⟩, .inl rfl⟩)))))
        | exact .inr (.inr (.inr (.inr (.inr (.inr ⟨.inl rfl, .inr ⟨_, _, rfl⟩⟩)))))
        | exact .inr (.inr (.inr (.inr (.inr (.inr ⟨.inr ⟨_, _, rfl⟩, .inl rfl⟩)))))

theorem eqGuard_int (op : BinOp) (t : TypeId) (ox oy : Operand) (k l : IntKind) (m n : Int) (P : Program) (w : World) : (eqGuard op t ox oy (.int k m) (.int l n)).run P w = .ok () w := by
  cases op <;> rfl
theorem eqGuard_str (op : BinOp) (t : TypeId) (ox oy : Operand) (m n : ByteArray) (P : Program) (w : World) : (eqGuard op t ox oy (.string m) (.string n)).run P w = .ok () w := by
  cases op <;> rfl
theorem binV_run {op : BinOp} {t : TypeId} {x y v : V} (h : binV X op t x y = some v) {cx cy : Value} (hx : VRel M ρ x cx) (hy : VRel M ρ y cy) (ox oy : Operand) (w : World) :
    ∃ c, (do eqGuard op t ox oy cx cy; binOp op t cx cy : Sem Value).run X.P w = .ok c w ∧ VRel M ρ v c := by
  unfold binV at h
  split at h
  · rename_i yk _
    unfold VRel at hx hy; subst hx; subst hy
    obtain ⟨c, hc, hr⟩ := shiftOp_run (yk := yk) (M := M) (ρ := ρ) h X.P w
    exact ⟨c, by simp only [Sem.run_bind, eqGuard_int, Result.andThen_ok]; exact hc, hr⟩
  · rename_i yk _
    unfold VRel at hx hy; subst hx; subst hy
    obtain ⟨c, hc, hr⟩ := shiftOp_run (yk := yk) (M := M) (ρ := ρ) h X.P w
    exact ⟨c, by simp only [Sem.run_bind, eqGuard_int, Result.andThen_ok]; exact hc, hr⟩
  · unfold VRel at hx hy; subst hx; subst hy
    split at h
    · rename_i e; subst e
      obtain ⟨c, hc, hr⟩ := intOp_run (M := M) (ρ := ρ) t h X.P w
      exact ⟨c, by simp only [Sem.run_bind, eqGuard_int, Result.andThen_ok]; exact hc, hr⟩
    · cases h
  · unfold VRel at hx hy
    obtain ⟨p, rfl, hp⟩ := hx
    obtain ⟨q, rfl, hq⟩ := hy
    obtain ⟨c, hc, hr⟩ := strOp_run (M := M) (ρ := ρ) h hp hq X.P w
    refine ⟨c, ?_, hr⟩
    simp only [Sem.run_bind, eqGuard_str, Result.andThen_ok]
    have : binOp op t (.string p) (.string q) = Op.stringOp op p q := by cases op <;> rfl
    rw [this]; exact hc
  · rename_i n1 n2
    cases he : equalV X t _ _ with
    | none => rw [he] at h; cases h
    | some b =>
      rw [he] at h
      cases h
      obtain ⟨h1, h2⟩ := equalV_run he hx hy w
      have h3 := (equalV_kinds he hx hy (fun ⟨⟨k, n, e1⟩, ⟨k', n', e2⟩⟩ => n1 k n k' n' e1 e2) (fun ⟨⟨s, e1⟩, ⟨s', e2⟩⟩ => n2 s s' e1 e2)).1
      refine ⟨.bool b, ?_, by unfold VRel; rfl⟩
      simp only [Sem.run_bind, h2, Result.andThen_ok, h3, h1, Sem.run_pure]
  · rename_i n1 n2
    cases he : equalV X t _ _ with
    | none => rw [he] at h; cases h
    | some b =>
      rw [he] at h
      cases h
      obtain ⟨h1, h2⟩ := equalV_run he hx hy w
      have h3 := (equalV_kinds he hx hy (fun ⟨⟨k, n, e1⟩, ⟨k', n', e2⟩⟩ => n1 k n k' n' e1 e2) (fun ⟨⟨s, e1⟩, ⟨s', e2⟩⟩ => n2 s s' e1 e2)).2
      refine ⟨.bool (!b), ?_, by unfold VRel; rfl⟩
      simp only [Sem.run_bind, h2, Result.andThen_ok, h3, h1, Sem.run_pure]
  · cases h

theorem unV_run {op : UnOp} {x v : V} (h : unV op x = some v) {cx : Value} (hx : VRel M ρ x cx) (P : Program) (w : World) :
    ∃ c, (Op.unary op cx).run P w = .ok c w ∧ VRel M ρ v c := by
  unfold unV at h
  split at h
  case h_4 => cases h
  all_goals unfold VRel at hx
  all_goals subst hx
  · cases h; exact ⟨_, rfl, by unfold VRel; rfl⟩
  · obtain ⟨n, hn, rfl⟩ := Option.map_eq_some_iff.1 h
    exact ⟨_, by simp only [Op.unary]; exact bits_run hn P w, by unfold VRel; rfl⟩
  · cases h; exact ⟨_, rfl, by unfold VRel; rfl⟩

/- ONE OPERATION -/
variable (hX : CtxOK X B) (h : HRel B w M ρ H) (ht : LRel M ρ tm a.tmps.toList)
include hX h ht

theorem op_move {x : Operand} (ho : o.op = .move x ∨ o.op = .assign x) : StepTo X.P o a w (OpPost B w M ρ H (opd X tm x) H) := by
  refine StepTo.value (c := a.eval x) (w' := w) ?_ (OpPost.same h (opd_rel hX h ht x))
  rcases ho with ho | ho <;> (simp only [execOp, ho]; rfl)

theorem op_pick {c x y : Operand} (ho : o.op = .pick c x y) {b : Bool} (hc : opd X tm c = .bool b) : StepTo X.P o a w (OpPost B w M ρ H (if b then opd X tm x else opd X tm y) H) := by
  have h1 := opd_rel hX h ht c
  rw [hc] at h1
  unfold VRel at h1
  refine StepTo.value (c := if b then a.eval x else a.eval y) (w' := w) ?_ (OpPost.same h ?_)
  · simp only [execOp, ho, h1, asBool]; cases b <;> rfl
  · cases b
    · exact opd_rel hX h ht y
    · exact opd_rel hX h ht x

theorem op_alloc {e : TypeId} (ho : o.op = .alloc e) {z : V} (hz : zeroV X e = some z) (hs : z.cells.all V.scalar = true) {b : Nat} (hb : H.get b = none) :
    StepTo X.P o a w (OpPost B w M ρ H (.ptr b 0 0) (H.put b (some (.row z.cells true 0)))) := by
  obtain ⟨c, hc, hr⟩ := run_zero hz w
  obtain ⟨hcells, hsz⟩ := (hr M ρ).cells hs
  obtain ⟨ρ', h1, h2, h3, h4⟩ := HRel.lay h hb z.cells c.cells e (0, 0) (LRel.toFn hcells) (fun j _ hj => by omega)
  refine StepTo.val (s := Instr.alloc e true (.tuple #[])) (by simp only [execOp, ho]) (c := .pointer (some ⟨w.heap.size, 0, none⟩)) (w' := w.alloc (.cells c.cells e)) ?_ ⟨M, ρ', h1, ?_, h2, h3⟩
  · simp [Instr.alloc, hc, newVar, newRow]
  · unfold VRel; exact ⟨_, _, h4, Nat.le_refl _, rfl, fun _ => rfl⟩

omit hX h ht in
theorem tnils_rel : ∀ {cs : List V} {xs : List Value}, LRel M ρ cs xs → LRel M ρ (cs.map tnilOf) xs
  | [], xs, h => h
  | v :: r, xs, h => by
    unfold LRel at h
    obtain ⟨x, ys, rfl, hv, hr⟩ := h
    simp only [List.map_cons]
    unfold LRel
    refine ⟨x, ys, rfl, ?_, tnils_rel hr⟩
    cases v <;> first | exact hv | (unfold tnilOf; unfold VRel at *; exact hv)
theorem op_allocT {e : TypeId} (ho : o.op = .alloc e) {z : V} (hz : zeroV X e = some z) (hs : z.cells.all V.scalar = true) {b : Nat} (hb : H.get b = none) :
    StepTo X.P o a w (OpPost B w M ρ H (.tptr e z.cells.length b) (H.put b (some (.row (z.cells.map tnilOf) true 0)))) := by
  obtain ⟨c, hc, hr⟩ := run_zero hz w
  obtain ⟨hcells, hsz⟩ := (hr M ρ).cells hs
  obtain ⟨ρ', h1, h2, h3, h4⟩ := HRel.layT (some (e, z.cells.length)) h hb (z.cells.map tnilOf) c.cells e (0, 0) (LRel.toFn (tnils_rel hcells)) (fun j _ hj => by omega) (fun t ht => by cases ht; rw [hsz])
  refine StepTo.val (s := Instr.alloc e true (.tuple #[])) (by simp only [execOp, ho]) (c := .pointer (some ⟨w.heap.size, 0, none⟩)) (w' := w.alloc (.cells c.cells e)) ?_ ⟨M, ρ', h1, ?_, h2, h3⟩
  · simp [Instr.alloc, hc, newVar, newRow]
  · unfold VRel; exact ⟨_, _, h4, rfl, fun _ => ⟨rfl, rfl⟩⟩

theorem op_box {e : TypeId} {x : Operand} (ho : o.op = .box e x) (hs : (opd X tm x).cells.all V.scalar = true) {b : Nat} (hb : H.get b = none) :
    StepTo X.P o a w (OpPost B w M ρ H (.ptr b 0 0) (H.put b (some (.row (opd X tm x).cells true 0)))) := by
  obtain ⟨hcells, hsz⟩ := (opd_rel hX h ht x).cells hs
  obtain ⟨ρ', h1, h2, h3, h4⟩ := HRel.lay h hb _ (a.eval x).cells e (0, 0) (LRel.toFn hcells) (fun j _ hj => by omega)
  refine StepTo.val (s := Instr.box e (a.eval x)) (by simp only [execOp, ho]) (c := .pointer (some ⟨w.heap.size, 0, none⟩)) (w' := w.alloc (.cells (a.eval x).cells e)) ?_ ⟨M, ρ', h1, ?_, h2, h3⟩
  · simp [Instr.box, newVar, newRow]
  · unfold VRel; exact ⟨_, _, h4, Nat.le_refl _, rfl, fun _ => rfl⟩

theorem op_load {t : TypeId} {p : Operand} (ho : o.op = .load t p) {cs : List V} {rd : List Nat} (hp : cellsAt H (opd X tm p) = some (cs, rd)) {ag : Bool} {n : Nat} (hag : aggT X t = some ag) (hn : size X t = some n)
    {v : V} (hv : takeV ag n cs = some v) : StepTo X.P o a w (OpPost B w M ρ H v H) := by
  obtain ⟨ad, hc, hs, hcells⟩ := cellsAt_rel h (opd_rel hX h ht p) hp
  obtain ⟨c, hrun, hr⟩ := run_loadVar' hag hn hs hcells hv
  refine StepTo.val (s := Instr.loadAt t (a.eval p)) (by simp only [execOp, ho]) (c := c) (w' := w) ?_ (OpPost.same h hr)
  simp [Instr.loadAt, hc, Instr.sureAddr, hrun]

theorem op_store {t : TypeId} {p x : Operand} (ho : o.op = .store t p x) {n : Nat} (hn : size X t = some n) (hl : (opd X tm x).cells.length = n) (hr : storeAt H (opd X tm p) (opd X tm x).cells = some r) :
    StepTo X.P o a w (OpPost B w M ρ H r.v (putAll H r.wr)) := by
  have hsc : (opd X tm x).cells.all V.scalar = true := by
    unfold storeAt at hr
    split at hr
    · cases hro : rowOf H _ _ with
      | none => rw [hro] at hr; cases hr
      | some y =>
        rw [hro] at hr
        simp only [Option.bind_eq_bind, Option.bind_some] at hr
        split at hr
        · rename_i hc; simp only [Bool.and_eq_true] at hc; exact hc.2
        · cases hr
    · cases hr
  obtain ⟨hcells, hsz⟩ := (opd_rel hX h ht x).cells hsc
  obtain ⟨ad, w', hc, hs, hrun, ρ', h1, h2, h3, h4⟩ := storeAt_rel h (opd_rel hX h ht p) hcells hr X.P
  refine StepTo.unit (s := Instr.storeAt t (a.eval p) (a.eval x)) (by simp only [execOp, ho]) (w' := w') ?_ ⟨M, ρ', h1, ?_, h2, h3⟩
  · have : (a.eval x).cells.size = n := by omega
    simp only [Instr.storeAt, hc, Instr.sureAddr, storeVar, Sem.run_bind, Sem.run_pure, Result.andThen_ok, run_size hn, this, ne_eq, not_true, if_false, hrun]
  · rw [h4]; unfold VRel; trivial

theorem op_nilCheck {x : Operand} (ho : o.op = .nilCheck x) {v : V} (hv : opd X tm x = v) (hp : (∃ b ver off, v = .ptr b ver off) ∨ (∃ cs, v = .iptr cs) ∨ ∃ t n b, v = .tptr t n b) : StepTo X.P o a w (OpPost B w M ρ H v H) := by
  have h1 := opd_rel hX h ht x
  rw [hv] at h1
  have : ∃ ad, a.eval x = .pointer (some ad) := by
    rcases hp with ⟨b, ver, off, rfl⟩ | ⟨cs, rfl⟩ | ⟨t, n, b, rfl⟩
    · exact h1.shape
    · exact h1.shape
    · unfold VRel at h1
      obtain ⟨p, ad, _, hc, _⟩ := h1
      exact ⟨ad, hc⟩
  obtain ⟨ad, had⟩ := this
  refine StepTo.value (c := a.eval x) (w' := w) ?_ (OpPost.same h h1)
  simp only [execOp, ho, had]
  rfl

theorem op_bin {op : BinOp} {t t2 : TypeId} {x y : Operand} (ho : o.op = .binOp op t x y t2) {v : V} (hv : binV X op t (opd X tm x) (opd X tm y) = some v) : StepTo X.P o a w (OpPost B w M ρ H v H) := by
  obtain ⟨c, hc, hr⟩ := binV_run hv (opd_rel hX h ht x) (opd_rel hX h ht y) x y w
  exact StepTo.val (by simp only [execOp, ho]) hc (OpPost.same h hr)
theorem op_un {op : UnOp} {t : TypeId} {x : Operand} (ho : o.op = .unOp op t x) {v : V} (hv : unV op (opd X tm x) = some v) : StepTo X.P o a w (OpPost B w M ρ H v H) := by
  obtain ⟨c, hc, hr⟩ := unV_run hv (opd_rel hX h ht x) X.P w
  exact StepTo.val (by simp only [execOp, ho]) hc (OpPost.same h hr)

theorem op_iface {t : TypeId} {x : Operand} (ho : o.op = .makeInterface t x) {d : TypeDesc} (hu : und X t = some d) (hd : ∀ ms, d ≠ .interface ms) : StepTo X.P o a w (OpPost B w M ρ H (.iface t (opd X tm x)) H) := by
  refine StepTo.val (s := Instr.makeInterface t (a.eval x)) (by simp only [execOp, ho]) (c := .iface t (a.eval x)) (w' := w) ?_ (OpPost.same h ?_)
  · simp only [Instr.makeInterface, Sem.run_bind, run_und hu, Result.andThen_ok]
    cases d <;> first | rfl | exact absurd rfl (hd _)
  · unfold VRel; exact ⟨_, rfl, opd_rel hX h ht x⟩
theorem op_func {fn : Fn} {first caps : Array Operand} (ho : o.op = .makeFunc fn first caps) : StepTo X.P o a w (OpPost B w M ρ H (.func fn (first.toList.map (opd X tm)) (caps.toList.map (opd X tm))) H) := by
  refine StepTo.val (s := Instr.makeFunc fn (first.map a.eval) (caps.map a.eval)) (by simp only [execOp, ho]) (c := .func fn (first.map a.eval) (caps.map a.eval)) (w' := w) rfl (OpPost.same h ?_)
  unfold VRel
  exact ⟨_, _, rfl, by rw [Array.toList_map]; exact opd_list hX h ht _, by rw [Array.toList_map]; exact opd_list hX h ht _⟩
theorem op_extract {t : Operand} {i : Nat} (ho : o.op = .extract t i) {vs : List V} {v : V} (hv : opd X tm t = .tuple vs) (hi : vs[i]? = some v) : StepTo X.P o a w (OpPost B w M ρ H v H) := by
  have h1 := opd_rel hX h ht t
  rw [hv] at h1
  unfold VRel at h1
  obtain ⟨xs, hxs, hr⟩ := h1
  obtain ⟨c, hc, hcr⟩ := hr.get hi
  refine StepTo.val (s := Instr.extract (a.eval t) i) (by simp only [execOp, ho]) (c := c) (w' := w) ?_ (OpPost.same h hcr)
  have : xs[i]? = some c := by simpa using hc
  simp [Instr.extract, hxs, this]
end
end Go.Ev
/- The operations that make and take apart. -/
set_option linter.unusedSectionVars false
set_option linter.unusedSimpArgs false
set_option linter.unusedVariables false
namespace Go.Ev
open Go
section
variable {X : Ctx} {B : Mem} {w : World} {M : Mem} {ρ : Rho} {H : Heap} {tm : List V} {a : Act} {o : Oper} {r : Res}

theorem foldl_put (off : Nat) : ∀ (vs : List Value) (k : Nat) (cs : Array Value), off + k + vs.length ≤ cs.size →
    ((vs.zipIdx k).foldl (fun (cs : Array Value) (x : Value × Nat) => cs.setIfInBounds (off + x.2) x.1) cs).size = cs.size ∧
    ∀ i, ((vs.zipIdx k).foldl (fun (cs : Array Value) (x : Value × Nat) => cs.setIfInBounds (off + x.2) x.1) cs)[i]? = if off + k ≤ i ∧ i < off + k + vs.length then vs[i - (off + k)]? else cs[i]?
  | [], k, cs, _ => ⟨rfl, fun i => by rw [if_neg (by simp)]; rfl⟩
  | v :: l, k, cs, h => by
    simp only [List.zipIdx_cons, List.foldl_cons]
    simp only [List.length_cons] at h
    obtain ⟨h1, h2⟩ := foldl_put off l (k + 1) (cs.setIfInBounds (off + k) v) (by simp; omega)
    refine ⟨by rw [h1]; simp, fun i => ?_⟩
    rw [h2]
    simp only [List.length_cons]
    by_cases e : i = off + k
    · subst e
      rw [if_neg (by omega), if_pos (by omega), Nat.sub_self, Array.getElem?_setIfInBounds_self, if_pos (by omega)]
      rfl
    · by_cases hr : off + (k + 1) ≤ i ∧ i < off + (k + 1) + l.length
      · rw [if_pos hr, if_pos (by omega), show i - (off + k) = (i - (off + (k + 1))) + 1 from by omega, List.getElem?_cons_succ]
      · rw [if_neg hr, if_neg (by omega), Array.getElem?_setIfInBounds_ne (by omega)]

theorem fill_rel {place place' : Nat → Option (Nat × Nat)} (hp : ∀ i x, place i = some x → place' i = some x) : ∀ (parts : List (Nat × V)) (cparts : List (Nat × Value)) (cells cells' : List V) (xs : Array Value),
    fillV place cells parts = some cells' → LRel M ρ cells xs.toList → parts.map (·.1) = cparts.map (·.1) → LRel M ρ (parts.map (·.2)) (cparts.map (·.2)) →
    ∃ ys, Instr.fill place' xs cparts = some ys ∧ LRel M ρ cells' ys.toList
  | [], cparts, cells, cells', xs, h, hc, hi, hv => by
    cases cparts with
    | nil => simp only [fillV, Option.some.injEq] at h; subst h; exact ⟨xs, rfl, hc⟩
    | cons => simp at hi
  | (i, v) :: rest, cparts, cells, cells', xs, h, hc, hi, hv => by
    cases cparts with
    | nil => simp at hi
    | cons cp crest =>
      obtain ⟨ci, cv⟩ := cp
      simp only [List.map_cons, List.cons.injEq] at hi
      obtain ⟨rfl, hi⟩ := hi
      simp only [List.map_cons] at hv
      unfold LRel at hv
      obtain ⟨x, xs', hxe, hvr, hrest⟩ := hv
      simp only [List.cons.injEq] at hxe
      obtain ⟨rfl, rfl⟩ := hxe
      simp only [fillV] at h
      cases hpl : place i with
      | none => rw [hpl] at h; cases h
      | some q =>
        obtain ⟨off, n⟩ := q
        rw [hpl] at h
        simp only [Option.bind_eq_bind, Option.bind_some] at h
        split at h
        · rename_i hcond
          simp only [Bool.and_eq_true, decide_eq_true_eq] at hcond
          obtain ⟨⟨hn, hle⟩, hs⟩ := hcond
          obtain ⟨hcells, hsz⟩ := hvr.cells hs
          have hlen := hc.length
          simp only [Array.length_toList] at hlen
          simp only [Instr.fill, hp _ _ hpl]
          rw [if_neg (by simp; omega)]
          refine fill_rel hp rest crest _ _ _ h ?_ hi hrest
          have hf := foldl_put off cv.cells.toList 0 xs (by simp; omega)
          rw [← Array.foldl_toList, Array.toList_zipIdx]
          refine LRel.of_get ?_ fun j u y hu hy => ?_
          · rw [splice_length (by omega)]; exact hlen.trans hf.1.symm
          · rw [splice_get (by omega)] at hu
            rw [Array.getElem?_toList, hf.2] at hy
            simp only [Nat.add_zero, Array.length_toList] at hy
            by_cases hin : off ≤ j ∧ j < off + v.cells.length
            · rw [if_pos hin] at hu
              rw [if_pos (by omega)] at hy
              obtain ⟨z, hz, hr⟩ := hcells.get hu
              rw [hz] at hy; cases hy; exact hr
            · rw [if_neg hin] at hu
              rw [if_neg (by omega)] at hy
              obtain ⟨z, hz, hr⟩ := hc.get hu
              rw [Array.getElem?_toList] at hz
              rw [hz] at hy; cases hy; exact hr
        · cases h

theorem parts_rel (hX : CtxOK X B) (h : HRel B w M ρ H) (ht : LRel M ρ tm a.tmps.toList) (ps : List (Nat × Operand)) :
    (ps.map fun p => (p.1, opd X tm p.2)).map (·.1) = (ps.map fun (i, x) => (i, a.eval x)).map (·.1) ∧ LRel M ρ ((ps.map fun p => (p.1, opd X tm p.2)).map (·.2)) ((ps.map fun (i, x) => (i, a.eval x)).map (·.2)) := by
  refine ⟨by simp [Function.comp_def], ?_⟩
  have := opd_list hX h ht (ps.map (·.2))
  simpa [Function.comp_def] using this

theorem run_places (fs : List Field) (hf : fs.all (fun f => (size X f.type).isSome) = true) (w : World) :
    (fs.mapM fun f => (do pure (f.offset, ← sizeOf f.type) : Sem (Nat × Nat))).run X.P w = .ok (fs.map fun f => (f.offset, (size X f.type).getD 0)) w := by
  induction fs with
  | nil => rfl
  | cons f r ih =>
    simp only [List.all_cons, Bool.and_eq_true] at hf
    obtain ⟨n, hn⟩ := Option.isSome_iff_exists.1 hf.1
    simp only [List.mapM_cons, Sem.run_bind, run_size hn, Result.andThen_ok, Sem.run_pure, ih hf.2, List.map_cons, hn, Option.getD_some]

theorem replicate_rel {z : List V} {c : Array Value} (hz : LRel M ρ z c.toList) (hs : 1 ≤ c.size) (len : Nat) :
    LRel M ρ (List.replicate len z).flatten ((Array.range (len * c.size)).map (fun i => c[i % c.size]!)).toList := by
  have hl := hz.length
  simp only [Array.length_toList] at hl
  refine LRel.of_get (by simp [hl]) fun i v x hv hx => ?_
  have key : ∀ (len i : Nat) (v : V), (List.replicate len z).flatten[i]? = some v → i < len * z.length ∧ z[i % z.length]? = some v := by
    intro len
    induction len with
    | zero => intro i v h; simp at h
    | succ n ih =>
      intro i v h
      rw [List.replicate_succ, List.flatten_cons] at h
      rcases Nat.lt_or_ge i z.length with h1 | h1
      · rw [List.getElem?_append_left h1] at h
        exact ⟨by rw [Nat.succ_mul]; omega, by rw [Nat.mod_eq_of_lt h1]; exact h⟩
      · rw [List.getElem?_append_right h1] at h
        obtain ⟨h2, h3⟩ := ih _ _ h
        refine ⟨by rw [Nat.succ_mul]; omega, ?_⟩
        rw [← Nat.mod_eq_sub_mod h1] at h3
        exact h3
  obtain ⟨h1, h2⟩ := key len i v hv
  rw [hl] at h1 h2
  simp only [Array.toList_map, Array.toList_range, List.getElem?_map, List.getElem?_range h1, Option.map_some, Option.some.injEq] at hx
  subst hx
  obtain ⟨y, hy, hr⟩ := hz.get h2
  have hlt : i % c.size < c.size := Nat.mod_lt _ (by omega)
  have : c[i % c.size]! = y := by
    rw [getElem!_pos c _ hlt]
    simp only [Array.getElem?_toList, Array.getElem?_eq_getElem hlt, Option.some.injEq] at hy
    exact hy
  rw [this]; exact hr

variable (hX : CtxOK X B) (h : HRel B w M ρ H) (ht : LRel M ρ tm a.tmps.toList)
include hX h ht

theorem op_build {t : TypeId} {parts : Array (Nat × Operand)} (ho : o.op = .build t parts) {z : V} (hz : zeroV X t = some z) {d : TypeDesc} (hu : und X t = some d)
    (hok : (∃ fs, d = .struct fs ∧ fs.toList.all (fun f => (size X f.type).isSome) = true) ∨ ∃ n e, d = .array n e ∧ (size X e).isSome = true)
    {place : Nat → Option (Nat × Nat)} (hpl : ∀ i x, place i = some x → match d with
      | .struct fs => ∃ f n, fs[i]? = some f ∧ size X f.type = some n ∧ x = (f.offset, n)
      | .array _ e => ∃ n, size X e = some n ∧ x = (i * n, n)
      | _ => False)
    {cs : List V} (hf : fillV place z.cells (parts.toList.map fun p => (p.1, opd X tm p.2)) = some cs) (hzs : ∃ l, z = .agg l) :
    StepTo X.P o a w (OpPost B w M ρ H (.agg cs) H) := by
  obtain ⟨c, hc, hr⟩ := run_zero hz w
  have hzr := hr M ρ
  have hcells : LRel M ρ z.cells c.cells.toList := by
    obtain ⟨l, rfl⟩ := hzs
    unfold VRel at hzr
    obtain ⟨xs, rfl, hr'⟩ := hzr
    exact hr'
  obtain ⟨hp1, hp2⟩ := parts_rel hX h ht parts.toList
  rcases hok with ⟨fs, rfl, hall⟩ | ⟨n, e, rfl, hn⟩
  · obtain ⟨ys, hys, hyr⟩ := fill_rel (place' := fun i => (fs.toList.map fun f => (f.offset, (size X f.type).getD 0))[i]?) (fun i x hx => by
      obtain ⟨f, n, h1, h2, rfl⟩ := hpl i x hx
      have h1' : fs.toList[i]? = some f := by simpa using h1
      simp [h1', h2]) _ _ _ _ _ hf hcells hp1 hp2
    refine StepTo.val (s := Instr.build t (parts.map fun (i, x) => (i, a.eval x))) (by simp only [execOp, ho]) (c := .agg ys) (w' := w) ?_ (OpPost.same h (by unfold VRel; exact ⟨_, rfl, hyr⟩))
    have hm : (fs.mapM fun f => (do pure (f.offset, ← sizeOf f.type) : Sem (Nat × Nat))).run X.P w = .ok (fs.toList.map fun f => (f.offset, (size X f.type).getD 0)).toArray w := by
      rw [Array.mapM_eq_mapM_toList, Sem.run_map, run_places fs.toList hall w]
      rfl
    simp only [Instr.build, Sem.run_bind, hc, Result.andThen_ok, run_und hu, hm]
    have : (parts.map fun (x : Nat × Operand) => (x.1, a.eval x.2)).toList = parts.toList.map fun (x : Nat × Operand) => (x.1, a.eval x.2) := by simp
    simp only [this, List.getElem?_toArray]
    rw [hys]
    rfl
  · obtain ⟨m, hm⟩ := Option.isSome_iff_exists.1 hn
    obtain ⟨ys, hys, hyr⟩ := fill_rel (place' := fun i => some (i * m, m)) (fun i x hx => by
      obtain ⟨n, h1, rfl⟩ := hpl i x hx
      rw [hm] at h1; cases h1; rfl) _ _ _ _ _ hf hcells hp1 hp2
    refine StepTo.val (s := Instr.build t (parts.map fun (i, x) => (i, a.eval x))) (by simp only [execOp, ho]) (c := .agg ys) (w' := w) ?_ (OpPost.same h (by unfold VRel; exact ⟨_, rfl, hyr⟩))
    simp only [Instr.build, Sem.run_bind, hc, Result.andThen_ok, run_und hu, run_size hm]
    have : (parts.map fun (x : Nat × Operand) => (x.1, a.eval x.2)).toList = parts.toList.map fun (x : Nat × Operand) => (x.1, a.eval x.2) := by simp
    simp only [this]
    rw [hys]
    rfl

theorem op_buildSlice {t : TypeId} {len : Nat} {parts : Array (Nat × Operand)} (ho : o.op = .buildSlice t len parts) {e : TypeId} (hu : und X t = some (.slice e)) {n : Nat} (hn : size X e = some n) {z : V} (hz : zeroV X e = some z)
    (h1 : 1 ≤ n) (hzl : z.cells.length = n) (hle : len * n ≤ 65536) (hs : z.cells.all V.scalar = true) {cs : List V}
    (hf : fillV (fun i => some (i * n, n)) (List.replicate len z.cells).flatten (parts.toList.map fun p => (p.1, opd X tm p.2)) = some cs) {b : Nat} (hb : H.get b = none) :
    (len = 0 → StepTo X.P o a w (OpPost B w M ρ H .slz H)) ∧ (len ≠ 0 → StepTo X.P o a w (OpPost B w M ρ H (.msl b 0 0 n len) (H.put b (some (.row cs true 0))))) := by
  obtain ⟨c, hc, hr⟩ := run_zero hz w
  obtain ⟨hcells, hsz⟩ := (hr M ρ).cells hs
  obtain ⟨hp1, hp2⟩ := parts_rel hX h ht parts.toList
  have hrep := replicate_rel hcells (by omega) len
  rw [hsz, hzl] at hrep
  obtain ⟨ys, hys, hyr⟩ := fill_rel (place' := fun i => some (i * n, n)) (fun _ _ hx => hx) _ _ _ _ _ hf hrep hp1 hp2
  have hthis : (parts.map fun (x : Nat × Operand) => (x.1, a.eval x.2)).toList = parts.toList.map fun (x : Nat × Operand) => (x.1, a.eval x.2) := by simp
  have hylen : ys.size = len * n := by
    have h3 := hyr.length
    have h4 : ∀ (parts : List (Nat × V)) (cells cells' : List V), fillV (fun i => some (i * n, n)) cells parts = some cells' → cells'.length = cells.length := by
      intro parts
      induction parts with
      | nil => intro cells cells' hh; simp only [fillV, Option.some.injEq] at hh; rw [hh]
      | cons p r ih =>
        intro cells cells' hh
        obtain ⟨i, v⟩ := p
        simp only [fillV, Option.bind_eq_bind, Option.bind_some] at hh
        split at hh
        · rename_i hcond
          simp only [Bool.and_eq_true, decide_eq_true_eq] at hcond
          rw [ih _ _ hh, splice_length (by omega)]
        · cases hh
    have h5 := h4 _ _ _ hf
    simp only [List.length_flatten, List.map_replicate, List.sum_replicate_nat, hzl] at h5
    simp only [Array.length_toList] at h3
    omega
  have hrun : (Instr.buildSlice t len (parts.map fun (i, x) => (i, a.eval x))).run X.P w = .ok (.slice (some ⟨w.heap.size, 0, none⟩) len len) (w.alloc (.cells ys e)) := by
    have hif : ¬ (len * n > 2 ^ 24) := by omega
    by_cases h0 : len * n = 0
    · have hl0 : len = 0 := by rcases Nat.mul_eq_zero.1 h0 with h | h <;> omega
      subst hl0
      simp only [Instr.buildSlice, Sem.run_bind, run_und hu, Result.andThen_ok, run_size hn, hif, if_false, Nat.zero_mul, if_true, hthis]
      simp only [Nat.zero_mul] at hys
      have e0 : ∀ f : Nat → Value, (Array.range 0).map f = #[] := fun f => by apply Array.ext'; simp
      rw [e0] at hys
      simp only [Sem.run_ite, Sem.run_pure, Result.andThen_ok]
      simp
      rw [e0, hys]
      rfl
    · simp only [Instr.buildSlice, Sem.run_bind, run_und hu, Result.andThen_ok, run_size hn, hif, if_false, h0, hc, Sem.run_pure, hthis]
      rw [hsz, hzl]
      simp only [hys]
      rfl
  refine ⟨fun h0 => ?_, fun h0 => ?_⟩
  · subst h0
    obtain ⟨g1, g2⟩ := h.pass (Kept.alloc w (.cells ys e))
    exact StepTo.val (by simp only [execOp, ho]) hrun ⟨M, ρ, g1, by unfold VRel; exact ⟨_, rfl⟩, g2, Rho.le_refl _⟩
  · obtain ⟨ρ', g1, g2, g3, g4⟩ := HRel.lay h hb cs ys e (0, 0) (LRel.toFn hyr) (fun j _ hj => by omega)
    exact StepTo.val (by simp only [execOp, ho]) hrun ⟨M, ρ', g1, by unfold VRel; exact ⟨_, _, _, g4, Nat.le_refl _, h1, rfl, Nat.le_refl _, fun _ => ⟨.inr rfl, by simp only; omega⟩⟩, g2, g3⟩
end
end Go.Ev
