/- A part of the proof of ReportBack (the second form: what is handed in is of bulk at most 1048576): no statement of the seat's stands here. -/
import Derived.Test.YtoppmjanignfdaaDoorLc
import Derived.Test.YtoppmjanignfdaaDoorRz
set_option linter.unusedSectionVars false
set_option linter.unusedSimpArgs false
set_option linter.unusedVariables false
set_option linter.all false
set_option linter.unusedVariables false
set_option linter.unusedSimpArgs false
set_option linter.unusedSectionVars false
set_option maxRecDepth 100000
set_option maxHeartbeats 8000000
namespace Go.Ev
open Go Go.Proofs
theorem Good.hookOf {X Y : Ctx} (h : Good X) (hY : Good Y) (hP : Y.P = X.P) {f : FuncId} {F : List V → Heap → Option (V × Heap)} (hF : ∀ args H r H', F args H = some (r, H') → ∃ n, evCall Y n f args H = some (r, H')) : Good (X.hook f F) := by
  refine ⟨h.mixed, h.names, fun W => ⟨(h.ctx W).glob, (h.ctx W).ext⟩, fun W g G hG args H r H' hr => ?_⟩
  have hG' : (if g = f then some F else X.spec g) = some G := hG
  split at hG'
  · rename_i e
    subst e
    cases hG'
    obtain ⟨n, hn⟩ := hF args H r H' hr
    have := hY.calls hn W
    rw [hP] at this
    exact this
  · exact h.hooks W g G hG' args H r H' hr
def F13 (args : List V) (H : Heap) : Option (V × Heap) := match args, H with
  | [x], [] => match itemsOf x with
    | some l => some (.bool (fewB l), [])
    | none => none
  | _, _ => none
def F21 (args : List V) (H : Heap) : Option (V × Heap) := match args, H with
  | [x, y], [] => match itemsOf x, itemsOf y with
    | some l, some k => some (.bool (sameIs l k), [])
    | _, _ => none
  | _, _ => none
def F22 (args : List V) (H : Heap) : Option (V × Heap) := match args, H with
  | [x, y], [] => match cellsOfV x, cellsOfV y with
    | some l, some k => some (.bool (sameCs l k), [])
    | _, _ => none
  | _, _ => none
def F6 (args : List V) (H : Heap) : Option (V × Heap) := match args, H with
  | [], [] => some (.bool true, [])
  | _, _ => none
noncomputable def X13 : Ctx := X12.hook 13 F13
instance : Mid X13 := Mid.hook (inferInstanceAs (Mid X12)) F13 (by decide)
theorem X13_good : Good X13 := X12_good.hook fun args H r H' h => by
  unfold F13 at h
  split at h
  · rename_i x
    split at h
    · rename_i l hl
      cases h
      exact ⟨_, ev13 rfl x l hl⟩
    · cases h
  · cases h
noncomputable def X14 : Ctx := X13.hook 21 F21
instance : Mid X14 := Mid.hook (inferInstanceAs (Mid X13)) F21 (by decide)
theorem X14_good : Good X14 := X13_good.hook fun args H r H' h => by
  unfold F21 at h
  split at h
  · rename_i x y
    split at h
    · rename_i l k hl hk
      cases h
      exact ⟨_, ev21 rfl x y l k hl hk⟩
    · cases h
  · cases h
noncomputable def X15 : Ctx := X14.hook 22 F22
instance : Mid X15 := Mid.hook (inferInstanceAs (Mid X14)) F22 (by decide)
theorem X15_good : Good X15 := X14_good.hook fun args H r H' h => by
  unfold F22 at h
  split at h
  · rename_i x y
    split at h
    · rename_i l k hl hk
      cases h
      exact ⟨_, ev22 rfl x y l k hl hk⟩
    · cases h
  · cases h
noncomputable def X16 : Ctx := X15.hook 6 F6
instance : Mid X16 := Mid.hook (inferInstanceAs (Mid X15)) F6 (by decide)
theorem X16_good : Good X16 := X15_good.hookOf XR_good rfl fun args H r H' h => by
  unfold F6 at h
  split at h
  · cases h
    exact ⟨400, awake_ev⟩
  · cases h
/- what ReportBack calls -/
section
variable {rec : FuncId → Nat → Code → St → Option (Ex × St)} (fr : Nat → Nat) (H : Heap)
theorem h13_16 (x : V) (l : List Itm) (hx : itemsOf x = some l) : callWith X16 rec 13 [x] [] = some (.bool (fewB l), []) := by
  rw [call_hook (F := F13) rfl]; simp [F13, hx]
theorem h21_16 (x y : V) (l k : List Itm) (hx : itemsOf x = some l) (hy : itemsOf y = some k) : callWith X16 rec 21 [x, y] [] = some (.bool (sameIs l k), []) := by
  rw [call_hook (F := F21) rfl]; simp [F21, hx, hy]
theorem h22_16 (x y : V) (l k : List Cel) (hx : cellsOfV x = some l) (hy : cellsOfV y = some k) : callWith X16 rec 22 [x, y] [] = some (.bool (sameCs l k), []) := by
  rw [call_hook (F := F22) rfl]; simp [F22, hx, hy]
def fewR (r : Rep) : Bool := fewB r.short && decide (r.cells.length ≤ 400)
theorem cv6 : callV X16 (callWith X16 rec) 6 [] fr H = some { v := .bool true } :=
  callV_pure rfl (by simp [mslsL]) (by simp [refsL]) (by rw [call_hook (F := F6) rfl]; rfl) (by simp [V.refs])
theorem cv7 (m : Nat) {v : V} {r : Rep} (hv : repOf v = some r) : callV X16 (callWith X16 (evCode X16 (m + 40))) 7 [v] fr H = some { v := .bool (fewR r) } := by
  obtain ⟨v1, v2⟩ := repOf_flat hv
  exact callV_pure rfl (by simp [mslsL, v1]) (by simp [refsL, v2]) (c7 m (fun rec x l hx => h13_16 x l hx) rfl v r hv) (by simp [V.refs])
theorem putV_refs (r : Rep) : (putV r).refs = [] := by
  unfold putV
  split
  · split <;> simp [V.refs, refsL]
  · simp [V.refs, refsL]
theorem cv8 {v : V} {r : Rep} (hv : repOf v = some r) (hT : (textOf r).length ≤ 140737488355328) : callV X16 (callWith X16 rec) 8 [v] fr H = some { v := putV r } := by
  obtain ⟨v1, v2⟩ := repOf_flat hv
  exact callV_pure rfl (by simp [mslsL, v1]) (by simp [refsL, v2]) (by rw [call_hook (F := F8) rfl]; simp [F8, hv, hT]) (putV_refs r)
theorem slS_flat {r : Rep} (h : ∀ t ∈ r.short, t.ok) : (slS r).scalar = true ∧ (slS r).refs = [] ∧ (slS r).msls = [] := by
  obtain ⟨f1, f2, f3⟩ := itemsV_flat r.short h
  unfold slS
  split <;> simp [V.scalar, V.refs, V.msls, f1, f2]
theorem slC_flat (r : Rep) : (slC r).scalar = true ∧ (slC r).refs = [] ∧ (slC r).msls = [] := by
  obtain ⟨f1, f2, f3⟩ := cellsV_flat r.cells
  unfold slC
  split <;> simp [V.scalar, V.refs, V.msls, f1, f2]
theorem okV_refs {r : Rep} (h : ∀ t ∈ r.short, t.ok) : (okV r).refs = [] := by
  simp [okV, V.refs, refsL, (slS_flat h).2.1, (slC_flat r).2.1]
theorem errV_refs (a e : Int) : (errV a e).refs = [] := by simp [errV, z8, V.refs, refsL]
theorem cv9 (s : List UInt8) : callV X16 (callWith X16 rec) 9 [.str s] fr H = some { v := getV s } := by
  refine callV_pure rfl (by simp [mslsL, V.msls]) (by simp [refsL, V.refs]) (by rw [call_hook (F := F9) rfl]; rfl) ?_
  rcases get_inv s with ⟨w, h1, _, _, h2⟩ | ⟨a, e, h1, _⟩
  · rw [h1]; exact okV_refs h2.1
  · rw [h1]; exact errV_refs _ _
theorem cv10 (m : Nat) {v u : V} {r q : Rep} (hv : repOf v = some r) (hu : repOf u = some q) : callV X16 (callWith X16 (evCode X16 (m + 40))) 10 [v, u] fr H = some { v := .bool (sameR r q) } := by
  obtain ⟨v1, v2⟩ := repOf_flat hv
  obtain ⟨u1, u2⟩ := repOf_flat hu
  exact callV_pure rfl (by simp [mslsL, v1, u1]) (by simp [refsL, v2, u2]) (c10 m (fun rec x y l k hx hy => h21_16 x y l k hx hy) (fun rec x y l k hx hy => h22_16 x y l k hx hy) rfl v u r q hv hu) (by simp [V.refs])
end
theorem repOf_ok {r : Rep} (h : RepOk r) : repOf (.agg [.int .i64 r.k, .int .i64 r.a, .int .i64 r.fa, .int .i64 r.fe, .nilsl, .int .i64 r.items, slS r, slC r]) = some r := by
  obtain ⟨hi, hs, hc⟩ := h
  have e1 : itemsOf (slS r) = some r.short := by
    unfold slS
    by_cases e : r.short = []
    · rw [if_pos e, e]; rfl
    · rw [if_neg e]; exact itemsOf_items hi e (by omega)
  have e2 : cellsOfV (slC r) = some r.cells := by
    unfold slC
    by_cases e : r.cells = []
    · rw [if_pos e, e]; rfl
    · rw [if_neg e]; exact cellsOf_cells e (by omega)
  simp [repOf, e1, e2, witOk, V.scalar, V.msls, V.refs]
theorem repOf_zero : repOf (.agg z8) = some rep0 := by
  simp [repOf, z8, itemsOf, cellsOfV, slOf, witOk, V.scalar, V.msls, V.refs, rep0]
/- alike reports -/
theorem sameI_iff {a b : Itm} (ha : a.ok) (hb : b.ok) : sameI a b = true ↔ a.d = b.d ∧ a.p = b.p ∧ a.bytes = b.bytes := by
  have h1 := (bytes_range ha).1
  have h2 := (bytes_range hb).1
  have key : ∀ (x y : List Int), (∀ c ∈ x, 0 ≤ c ∧ c < 256) → (∀ c ∈ y, 0 ≤ c ∧ c < 256) → toBytes x = toBytes y → x = y := by
    intro x
    induction x with
    | nil => intro y _ _ h; cases y with
      | nil => rfl
      | cons d t => simp [toBytes] at h
    | cons c r ih =>
      intro y hx hy h
      cases y with
      | nil => simp [toBytes] at h
      | cons d t =>
        simp only [toBytes, List.map_cons, List.cons.injEq] at h
        obtain ⟨e1, e2⟩ := h
        have c0 := hx c List.mem_cons_self
        have d0 := hy d List.mem_cons_self
        have e3 := congrArg UInt8.toNat e1
        simp at e3
        rw [ih t (fun z hz => hx z (List.mem_cons_of_mem _ hz)) (fun z hz => hy z (List.mem_cons_of_mem _ hz)) e2]
        congr 1
        omega
  unfold sameI
  simp only [Bool.and_eq_true, decide_eq_true_eq]
  constructor
  · rintro ⟨⟨e1, e2⟩, e3⟩
    exact ⟨e1, e2, key _ _ h1 h2 e3⟩
  · rintro ⟨e1, e2, e3⟩
    exact ⟨⟨e1, e2⟩, by rw [e3]⟩
theorem sameIs_lines : ∀ a b : List Itm, (∀ t ∈ a, t.ok) → (∀ t ∈ b, t.ok) → sameIs a b = true → a.map itemL = b.map itemL
  | [], [], _, _, _ => rfl
  | [], _ :: _, _, _, h => by cases h
  | _ :: _, [], _, _, h => by cases h
  | x :: r, y :: t, ha, hb, h => by
    simp only [sameIs, Bool.and_eq_true] at h
    obtain ⟨e1, e2, e3⟩ := (sameI_iff (ha x List.mem_cons_self) (hb y List.mem_cons_self)).1 h.1
    rw [List.map_cons, List.map_cons, sameIs_lines r t (fun z hz => ha z (List.mem_cons_of_mem _ hz)) (fun z hz => hb z (List.mem_cons_of_mem _ hz)) h.2]
    unfold itemL
    rw [e1, e2, e3]
theorem sameCs_eq : ∀ a b : List Cel, sameCs a b = true → a = b
  | [], [], _ => rfl
  | [], _ :: _, h => by cases h
  | _ :: _, [], h => by cases h
  | x :: r, y :: t, h => by
    simp only [sameCs, sameC, Bool.and_eq_true, decide_eq_true_eq] at h
    rw [sameCs_eq r t h.2]
    obtain ⟨⟨e1, e2⟩, e3⟩ := h.1
    cases x; cases y
    simp at e1 e2 e3
    subst e1 e2 e3
    rfl
theorem sameCs_refl : ∀ a : List Cel, sameCs a a = true
  | [] => rfl
  | x :: r => by simp [sameCs, sameC, sameCs_refl r]
theorem sameIs_norm : ∀ a b : List Itm, (∀ t ∈ a, t.ok) → (∀ t ∈ b, t.ok) → a.map normI = b.map normI → sameIs a b = true
  | [], [], _, _, _ => rfl
  | [], _ :: _, _, _, h => by cases h
  | _ :: _, [], _, _, h => by cases h
  | x :: r, y :: t, ha, hb, h => by
    rw [List.map_cons, List.map_cons, List.cons.injEq] at h
    obtain ⟨h1, h2⟩ := h
    have ox := ha x List.mem_cons_self
    have oy := hb y List.mem_cons_self
    have e1 := congrArg Itm.d h1
    have e2 := congrArg Itm.p h1
    have e3 := congrArg Itm.bytes h1
    rw [(normI_bytes ox).1, (normI_bytes oy).1] at e3
    simp only [sameIs, Bool.and_eq_true]
    exact ⟨(sameI_iff ox oy).2 ⟨e1, e2, e3⟩, sameIs_norm r t (fun z hz => ha z (List.mem_cons_of_mem _ hz)) (fun z hz => hb z (List.mem_cons_of_mem _ hz)) h2⟩
theorem sameIs_self : ∀ a : List Itm, (∀ t ∈ a, t.ok) → sameIs (a.map normI) a = true
  | [], _ => rfl
  | x :: r, ha => by
    have ox := ha x List.mem_cons_self
    simp only [List.map_cons, sameIs, Bool.and_eq_true]
    exact ⟨(sameI_iff (normI_bytes ox).2 ox).2 ⟨rfl, rfl, (normI_bytes ox).1⟩, sameIs_self r fun z hz => ha z (List.mem_cons_of_mem _ hz)⟩
theorem sameR_norm {r : Rep} (h : ∀ t ∈ r.short, t.ok) : sameR (normR r) r = true := by
  simp [sameR, normR, sameIs_self r.short h, sameCs_refl]
theorem okV_inj {r q : Rep} (hr : RepOk r) (hq : RepOk q) (h : okV r = okV q) : r = q := by
  have h1 := repOf_ok hr
  have h2 := repOf_ok hq
  unfold okV at h
  simp only [V.tuple.injEq, List.cons.injEq, and_true] at h
  rw [h, h2] at h1
  exact (Option.some.inj h1).symm
/-- Unlike reports have unlike texts. -/
theorem text_same {r q : Rep} (hr : RepOk r) (hq : RepOk q) (mr : mayB r = true) (mq : mayB q = true) (lr : (textOf r).length ≤ 1048576) (lq : (textOf q).length ≤ 1048576) : decide (textOf r = textOf q) = sameR r q := by
  have norm_ok : ∀ {r : Rep}, RepOk r → RepOk (normR r) := by
    intro r h
    refine ⟨?_, by simpa [normR] using h.2.1, h.2.2⟩
    intro t ht
    obtain ⟨u, hu, rfl⟩ := List.mem_map.1 ht
    exact (normI_bytes (h.1 u hu)).2
  cases e : sameR r q
  · simp only [decide_eq_false_iff_not]
    intro h
    have h1 := get_of_put mr hr.1 lr
    have h2 := get_of_put mq hq.1 lq
    rw [h] at h1
    have h3 := okV_inj (norm_ok hr) (norm_ok hq) (h1.symm.trans h2)
    have e1 := congrArg Rep.k h3
    have e2 := congrArg Rep.a h3
    have e3 := congrArg Rep.fa h3
    have e4 := congrArg Rep.fe h3
    have e5 := congrArg Rep.items h3
    have e6 := congrArg Rep.short h3
    have e7 := congrArg Rep.cells h3
    simp only [normR] at e1 e2 e3 e4 e5 e6 e7
    have : sameR r q = true := by
      unfold sameR
      rw [e1, e2, e3, e4, e5, e7, sameIs_norm _ _ hr.1 hq.1 e6, sameCs_refl]
      simp
    rw [this] at e
    cases e
  · simp only [decide_eq_true_eq]
    unfold sameR at e
    simp only [Bool.and_eq_true, decide_eq_true_eq] at e
    obtain ⟨⟨⟨⟨⟨e1, e2⟩, e3, e4⟩, e5⟩, e6⟩, e7⟩ := e
    have h6 := sameIs_lines _ _ hr.1 hq.1 e6
    have h7 := sameCs_eq _ _ e7
    unfold textOf linesOf headL
    rw [e1, e2, e3, e4, e5, h6, h7]
end Go.Ev
