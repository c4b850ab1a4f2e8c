/- A part of the proof of ReportBack (the second form: what is handed in is of bulk at most 1048576): no statement of the seat's stands here. -/
import Derived.Test.YtoppmjanignfdaaDoorRx
set_option linter.unusedSectionVars false
set_option linter.unusedSimpArgs false
set_option linter.unusedVariables false
set_option linter.all false
set_option linter.unusedVariables false
set_option linter.unusedSimpArgs false
set_option linter.unusedSectionVars false
/- Numbers' texts: put and get are each other's inverse. -/
namespace Go.Ev
open Go
/-- A digit's sign, as a byte. -/
def sign (d : Int) : UInt8 := UInt8.ofNat (letterB d).toNat
theorem sign_digit {d : Int} (h0 : 0 ≤ d) (h1 : d < 16) : digitV (sign d).toNat = d := by
  have : d = 0 ∨ d = 1 ∨ d = 2 ∨ d = 3 ∨ d = 4 ∨ d = 5 ∨ d = 6 ∨ d = 7 ∨ d = 8 ∨ d = 9 ∨ d = 10 ∨ d = 11 ∨ d = 12 ∨ d = 13 ∨ d = 14 ∨ d = 15 := by omega
  rcases this with rfl | rfl | rfl | rfl | rfl | rfl | rfl | rfl | rfl | rfl | rfl | rfl | rfl | rfl | rfl | rfl <;> decide
theorem digit_sign {c : UInt8} (h : 0 ≤ digitV c.toNat) : sign (digitV c.toNat) = c := by
  have hc := c.toNat_lt
  apply UInt8.toNat_inj.1
  unfold digitV at *
  split at h
  · rename_i hr
    rw [if_pos hr]
    unfold sign letterB
    rw [if_pos (by omega)]
    simp
    omega
  · rename_i hn
    rw [if_neg hn]
    split at h
    · rename_i hr
      rw [if_pos hr]
      unfold sign letterB
      rw [if_neg (by omega)]
      simp
      omega
    · omega
section
variable (base : Int) (hb : base = 10 ∨ base = 16)
include hb
theorem putL_acc : ∀ (k : Nat) (n : Int) (ds : List Int), putL base k n ds = putL base k n [] ++ ds
  | 0, n, ds => by simp [putL]
  | k + 1, n, ds => by
    simp only [putL]
    split
    · simp
    · rw [putL_acc k _ (letterB (n.tmod base) :: ds), putL_acc k _ [letterB (n.tmod base)]]
      simp
theorem putL_fuel : ∀ (k j : Nat) (n : Int), 0 ≤ n → n < 2 ^ (k + 1) → n < 2 ^ (j + 1) → putL base k n [] = putL base j n []
  | 0, 0, n, h0, h1, h2 => rfl
  | 0, j + 1, n, h0, h1, h2 => by
    have : n.tdiv base = 0 := by
      rw [Int.tdiv_eq_ediv_of_nonneg h0]
      exact Int.ediv_eq_zero_of_lt h0 (by simp at h1; rcases hb with rfl | rfl <;> omega)
    simp [putL, this]
  | k + 1, 0, n, h0, h1, h2 => by
    have : n.tdiv base = 0 := by
      rw [Int.tdiv_eq_ediv_of_nonneg h0]
      exact Int.ediv_eq_zero_of_lt h0 (by simp at h2; rcases hb with rfl | rfl <;> omega)
    simp [putL, this]
  | k + 1, j + 1, n, h0, h1, h2 => by
    simp only [putL]
    split
    · rfl
    · have hq : 0 ≤ n.tdiv base := Int.tdiv_nonneg h0 (by omega)
      have e1 : (2 : Int) ^ (k + 1 + 1) = 2 * 2 ^ (k + 1) := by rw [Int.pow_succ, Int.mul_comm]
      have e2 : (2 : Int) ^ (j + 1 + 1) = 2 * 2 ^ (j + 1) := by rw [Int.pow_succ, Int.mul_comm]
      have hd : n.tdiv base = n / base := Int.tdiv_eq_ediv_of_nonneg h0
      rw [e1] at h1
      rw [e2] at h2
      have q1 : n.tdiv base < 2 ^ (k + 1) := by
        rw [hd]
        generalize (2 : Int) ^ (k + 1) = p at *
        rcases hb with rfl | rfl <;> omega
      have q2 : n.tdiv base < 2 ^ (j + 1) := by
        rw [hd]
        generalize (2 : Int) ^ (j + 1) = p at *
        rcases hb with rfl | rfl <;> omega
      rw [putL_acc base hb k, putL_acc base hb j, putL_fuel k j _ hq q1 q2]
theorem digitsB_small {n : Int} (h0 : 0 ≤ n) (h1 : n < base) : digitsB base n = [sign n] := by
  have hd : n.tdiv base = 0 := by
    rw [Int.tdiv_eq_ediv_of_nonneg h0]; exact Int.ediv_eq_zero_of_lt h0 h1
  have hm : n.tmod base = n := by
    rw [Int.tmod_eq_emod_of_nonneg h0]; exact Int.emod_eq_of_lt h0 h1
  simp [digitsB, putL, hd, hm, sign]
theorem digitsB_big {n : Int} (h1 : base ≤ n) (h64 : n < 18446744073709551616) : digitsB base n = digitsB base (n / base) ++ [sign (n % base)] := by
  have h0 : 0 ≤ n := by rcases hb with rfl | rfl <;> omega
  have hd : n.tdiv base = n / base := Int.tdiv_eq_ediv_of_nonneg h0
  have hm : n.tmod base = n % base := Int.tmod_eq_emod_of_nonneg h0
  have hne : ¬ n / base = 0 := by rcases hb with rfl | rfl <;> omega
  have hq : 0 ≤ n / base := by rcases hb with rfl | rfl <;> omega
  have hlt : n / base < 9223372036854775808 := by rcases hb with rfl | rfl <;> omega
  unfold digitsB
  conv => lhs; unfold putL
  rw [hd, hm, if_neg hne, putL_acc base hb 62, putL_fuel base hb 62 63 (n / base) hq (by simpa using hlt) (by simp; omega)]
  simp [sign]
theorem getGo_snoc (len : Nat) : ∀ (u : List UInt8) (c : UInt8) (i : Nat) (n : Int), getGo base len (u ++ [c]) i n = (getGo base len u i n).bind fun m => if getBad base len (i + u.length) m (digitV c.toNat) then none else some (m * base + digitV c.toNat)
  | [], c, i, n => by simp [getGo]
  | x :: r, c, i, n => by
    show getGo base len (x :: (r ++ [c])) i n = _
    rw [getGo, getGo]
    split
    · rfl
    · rw [getGo_snoc len r c (i + 1), List.length_cons]
      rw [show i + 1 + r.length = i + (r.length + 1) from by omega]
theorem get_put : ∀ (k : Nat) (n : Int), n.toNat ≤ k → 0 < n → n < 18446744073709551616 → ∀ len, getGo base len (digitsB base n) 0 0 = some n ∧ digitsB base n ≠ []
  | 0, n, hk, h0, h64, len => by omega
  | k + 1, n, hk, h0, h64, len => by
    by_cases h : n < base
    · rw [digitsB_small base hb (by omega) h]
      have h16 : n < 16 := by rcases hb with rfl | rfl <;> omega
      have hd := sign_digit (d := n) (by omega) h16
      refine ⟨?_, by simp⟩
      rw [getGo, hd, if_neg, getGo]
      · simp
      · unfold getBad
        rintro (h1 | h1 | h1 | h1)
        · omega
        · omega
        · omega
        · have : 0 ≤ (18446744073709551615 - n).tdiv base := Int.tdiv_nonneg (by omega) (by rcases hb with rfl | rfl <;> omega)
          omega
    · have hq0 : 0 < n / base := by rcases hb with rfl | rfl <;> omega
      have hqk : (n / base).toNat ≤ k := by rcases hb with rfl | rfl <;> omega
      have hq64 : n / base < 18446744073709551616 := by rcases hb with rfl | rfl <;> omega
      obtain ⟨ih, ne⟩ := get_put k (n / base) hqk hq0 hq64 len
      have hm : 0 ≤ n % base ∧ n % base < base := by rcases hb with rfl | rfl <;> omega
      have h16 : n % base < 16 := by rcases hb with rfl | rfl <;> omega
      rw [digitsB_big base hb (by omega) h64]
      refine ⟨?_, by simp⟩
      rw [getGo_snoc base hb, ih, Option.bind_some, sign_digit hm.1 h16, if_neg]
      · congr 1
        rcases hb with rfl | rfl <;> omega
      · unfold getBad
        have hl : 0 < (digitsB base (n / base)).length := List.length_pos_iff.2 ne
        rintro (h1 | h1 | h1 | h1)
        · omega
        · omega
        · omega
        · rw [Int.tdiv_eq_ediv_of_nonneg (by omega)] at h1
          rcases hb with rfl | rfl <;> omega
theorem get_put0 : getGo base 1 (digitsB base 0) 0 0 = some 0 ∧ (digitsB base 0).length = 1 := by
  rw [digitsB_small base hb (by omega) (by rcases hb with rfl | rfl <;> omega)]
  rcases hb with rfl | rfl <;> decide
theorem get_put_all {n : Int} (h0 : 0 ≤ n) (h64 : n < 18446744073709551616) : getGo base (digitsB base n).length (digitsB base n) 0 0 = some n ∧ digitsB base n ≠ [] := by
  by_cases h : n = 0
  · subst h
    obtain ⟨a, b⟩ := get_put0 base hb
    rw [b]
    exact ⟨a, by intro e; rw [e] at b; cases b⟩
  · exact get_put base hb n.toNat n (Nat.le_refl _) (by omega) h64 _
theorem put_get1 : ∀ (k : Nat) (u : List UInt8), u.length = k → u ≠ [] → ∀ (len : Nat) (m : Int), 2 ≤ len → getGo base len u 0 0 = some m → 0 < m ∧ m < 18446744073709551616 ∧ digitsB base m = u
  | 0, u, hk, hne, len, m, h2, h => absurd (List.length_eq_zero_iff.1 hk) hne
  | k + 1, u, hk, hne, len, m, h2, h => by
    obtain ⟨v, c, rfl⟩ : ∃ v c, u = v ++ [c] := ⟨u.dropLast, u.getLast hne, (List.dropLast_concat_getLast hne).symm⟩
    rw [getGo_snoc base hb] at h
    obtain ⟨m', h1, h3⟩ := Option.bind_eq_some_iff.1 h
    split at h3
    · cases h3
    · rename_i hbad
      cases h3
      unfold getBad at hbad
      simp only [not_or] at hbad
      obtain ⟨b1, b2, b3, b4⟩ := hbad
      have hd0 : 0 ≤ digitV c.toNat := by omega
      have hsg := digit_sign hd0
      rw [Int.tdiv_eq_ediv_of_nonneg (by have := digitV_le c.toNat; omega)] at b4
      have hdl := digitV_le c.toNat
      by_cases hv : v = []
      · subst hv
        simp [getGo] at h1
        subst h1
        simp at b3
        have hd1 : ¬ digitV c.toNat = 0 := fun e => by have := b3 e; omega
        rw [Int.zero_mul, Int.zero_add]
        refine ⟨by omega, by omega, ?_⟩
        rw [digitsB_small base hb (by omega) (by omega), hsg]; rfl
      · obtain ⟨g1, g2, g3⟩ := put_get1 k v (by simp at hk; omega) hv len m' h2 h1
        have hge : base ≤ m' * base + digitV c.toNat := by rcases hb with rfl | rfl <;> omega
        have hlt : m' * base + digitV c.toNat < 18446744073709551616 := by rcases hb with rfl | rfl <;> omega
        refine ⟨by rcases hb with rfl | rfl <;> omega, hlt, ?_⟩
        rw [digitsB_big base hb hge hlt]
        have e1 : (m' * base + digitV c.toNat) / base = m' := by rcases hb with rfl | rfl <;> omega
        have e2 : (m' * base + digitV c.toNat) % base = digitV c.toNat := by rcases hb with rfl | rfl <;> omega
        rw [e1, e2, g3, hsg]
theorem put_get {w : List UInt8} (hw : w ≠ []) {n : Int} (h : getGo base w.length w 0 0 = some n) : 0 ≤ n ∧ n < 18446744073709551616 ∧ digitsB base n = w := by
  by_cases h2 : 2 ≤ w.length
  · obtain ⟨a, b, c⟩ := put_get1 base hb _ w rfl hw _ n h2 h
    exact ⟨by omega, b, c⟩
  · have h1 : w.length = 1 := by have := List.length_pos_iff.2 hw; omega
    match w, h1 with
    | [c], _ =>
      rw [getGo] at h
      split at h
      · cases h
      · rename_i hbad
        rw [getGo] at h
        cases h
        unfold getBad at hbad
        simp only [not_or] at hbad
        obtain ⟨b1, b2, _, _⟩ := hbad
        have hdl := digitV_le c.toNat
        have hsg := digit_sign (c := c) (by omega)
        rw [Int.zero_mul, Int.zero_add]
        refine ⟨by omega, by omega, ?_⟩
        rw [digitsB_small base hb (by omega) (by omega), hsg]
end
end Go.Ev
set_option linter.unusedVariables false
set_option linter.unusedSimpArgs false
set_option linter.unusedSectionVars false
/- Words and bytes: what is told is read, and what is read was told so. -/
namespace Go.Ev
open Go
theorem u64Of_id {n : Int} (h0 : 0 ≤ n) (h1 : n < 18446744073709551616) : u64Of n = n := by unfold u64Of; omega
theorem numOk_dec {n : Int} (h0 : 0 ≤ n) (h1 : n < 18446744073709551616) : numOk (decS n) = true ∧ numV (decS n) = n := by
  obtain ⟨a, b⟩ := get_put_all 10 (.inl rfl) h0 h1
  unfold numOk numV decR decS
  rw [u64Of_id h0 h1, a, sameBytes_iff]
  simp [b]
theorem dec_num {w : List UInt8} (h : numOk w = true) : decS (numV w) = w ∧ 0 ≤ numV w ∧ numV w < 18446744073709551616 := by
  unfold numOk at h
  rw [sameBytes_iff] at h
  simp only [Bool.and_eq_true, Bool.not_eq_true', decide_eq_false_iff_not] at h
  obtain ⟨h1, h2⟩ := h
  obtain ⟨n, hn⟩ := Option.isSome_iff_exists.1 h1
  obtain ⟨a, b, c⟩ := put_get 10 (.inl rfl) h2 hn
  unfold numV decS
  rw [hn]
  simp only [Option.getD_some]
  rw [u64Of_id a b]
  exact ⟨c, a, b⟩
theorem proto_hex {n : Int} (h0 : 0 ≤ n) (h1 : n ≤ 65535) : protoOk (hexS n) = true ∧ protoN (hexS n) = n := by
  obtain ⟨a, b⟩ := get_put_all 16 (.inr rfl) h0 (by omega)
  unfold protoOk protoN hexR hexS
  rw [u64Of_id h0 (by omega), a, sameBytes_iff]
  simp [b]
  omega
theorem hex_proto {w : List UInt8} (h : protoOk w = true) (h1 : protoN w ≤ 65535) : hexS (protoN w) = w ∧ 0 ≤ protoN w := by
  unfold protoOk at h
  rw [sameBytes_iff] at h
  simp only [Bool.and_eq_true, Bool.not_eq_true', decide_eq_false_iff_not] at h
  obtain ⟨h2, h3⟩ := h
  obtain ⟨n, hn⟩ := Option.isSome_iff_exists.1 h2
  obtain ⟨a, b, c⟩ := put_get 16 (.inr rfl) h3 hn
  have e : protoN w = if 1099511627776 < n then 1099511627776 else n := by
    unfold protoN
    have hn' : hexR w = some n := hn
    rw [hn']; rfl
  by_cases hl : 1099511627776 < n
  · rw [e, if_pos hl] at h1
    omega
  · rw [e, if_neg hl]
    unfold hexS
    rw [u64Of_id a b]
    exact ⟨c, a⟩
/- bytes -/
theorem toHex_cons (x : Int) (r : List Int) : toBytes (hexI (x :: r)) = sign (x / 16) :: sign (x % 16) :: toBytes (hexI r) := by
  simp [hexI, List.flatMap_cons, toBytes, sign]
theorem rb_hex : ∀ (bs os : List Int), (∀ x ∈ bs, 0 ≤ x ∧ x < 256) → rbGo (toBytes (hexI bs)) os none = some (os ++ bs)
  | [], os, _ => by simp [hexI, toBytes, rbGo]
  | x :: r, os, h => by
    obtain ⟨h0, h1⟩ := h x List.mem_cons_self
    have a := sign_digit (d := x / 16) (by omega) (by omega)
    have b := sign_digit (d := x % 16) (by omega) (by omega)
    rw [toHex_cons, rbGo, a, if_neg (by omega), rbGo, b, if_neg (by omega), rb_hex r _ fun y hy => h y (List.mem_cons_of_mem _ hy)]
    have : (x / 16 * 16 + x % 16) % 256 = x := by omega
    rw [this]
    simp
theorem hex_rb : ∀ (k : Nat) (w : List UInt8) (os o : List Int), w.length ≤ k → rbGo w os none = some o → ∃ bs, o = os ++ bs ∧ w = toBytes (hexI bs) ∧ ∀ x ∈ bs, 0 ≤ x ∧ x < 256
  | _, [], os, o, _, h => by
    simp [rbGo] at h
    exact ⟨[], by simp [h], by simp [hexI, toBytes], by simp⟩
  | _, [c], os, o, _, h => by
    rw [rbGo] at h
    split at h
    · cases h
    · simp [rbGo] at h
  | k + 1, c :: e :: r, os, o, hk, h => by
    rw [rbGo] at h
    split at h
    · cases h
    · rename_i h1
      rw [rbGo] at h
      split at h
      · cases h
      · rename_i h2
        obtain ⟨bs, e1, e2, e3⟩ := hex_rb k r _ o (by simp at hk; omega) h
        have d1 := digitV_le c.toNat
        have d2 := digitV_le e.toNat
        have s1 := digit_sign (c := c) (by omega)
        have s2 := digit_sign (c := e) (by omega)
        have hx : (digitV c.toNat * 16 + digitV e.toNat) % 256 = digitV c.toNat * 16 + digitV e.toNat := by omega
        refine ⟨(digitV c.toNat * 16 + digitV e.toNat) :: bs, by rw [e1, hx]; simp, ?_, ?_⟩
        · rw [toHex_cons, ← e2, show (digitV c.toNat * 16 + digitV e.toNat) / 16 = digitV c.toNat by omega, show (digitV c.toNat * 16 + digitV e.toNat) % 16 = digitV e.toNat by omega, s1, s2]
        · intro x hx'
          rcases List.mem_cons.1 hx' with rfl | hx'
          · omega
          · exact e3 x hx'
  | 0, c :: e :: r, os, o, hk, h => by simp at hk
theorem toHex_nil {bs : List Int} (h : toBytes (hexI bs) = []) : bs = [] := by
  cases bs with
  | nil => rfl
  | cons x r => rw [toHex_cons] at h; cases h
theorem toHex_ne {bs : List Int} : toBytes (hexI bs) ≠ [45] := by
  cases bs with
  | nil => simp [hexI, toBytes]
  | cons x r => rw [toHex_cons]; simp
/- words -/
def Clean (w : List UInt8) : Prop := ∀ c ∈ w, c ≠ 32 ∧ c ≠ 10
theorem sign_clean {d : Int} (h0 : 0 ≤ d) (h1 : d < 16) : sign d ≠ 32 ∧ sign d ≠ 10 := by
  have : d = 0 ∨ d = 1 ∨ d = 2 ∨ d = 3 ∨ d = 4 ∨ d = 5 ∨ d = 6 ∨ d = 7 ∨ d = 8 ∨ d = 9 ∨ d = 10 ∨ d = 11 ∨ d = 12 ∨ d = 13 ∨ d = 14 ∨ d = 15 := by omega
  rcases this with rfl | rfl | rfl | rfl | rfl | rfl | rfl | rfl | rfl | rfl | rfl | rfl | rfl | rfl | rfl | rfl <;> decide
theorem putL_clean (base : Int) (hb : base = 10 ∨ base = 16) : ∀ (k : Nat) (n : Int) (ds : List Int), 0 ≤ n → (∀ c ∈ ds, ∃ d, 0 ≤ d ∧ d < 16 ∧ c = letterB d) → ∀ c ∈ putL base k n ds, ∃ d, 0 ≤ d ∧ d < 16 ∧ c = letterB d
  | 0, n, ds, h0, h, c, hc => by
    rw [putL, Int.tmod_eq_emod_of_nonneg h0] at hc
    rcases List.mem_cons.1 hc with rfl | hc
    · exact ⟨n % base, by rcases hb with rfl | rfl <;> omega, by rcases hb with rfl | rfl <;> omega, rfl⟩
    · exact h c hc
  | k + 1, n, ds, h0, h, c, hc => by
    have h' : ∀ c ∈ letterB (n.tmod base) :: ds, ∃ d, 0 ≤ d ∧ d < 16 ∧ c = letterB d := by
      intro c hc
      rw [Int.tmod_eq_emod_of_nonneg h0] at hc
      rcases List.mem_cons.1 hc with rfl | hc
      · exact ⟨n % base, by rcases hb with rfl | rfl <;> omega, by rcases hb with rfl | rfl <;> omega, rfl⟩
      · exact h c hc
    rw [putL] at hc
    split at hc
    · exact h' c hc
    · exact putL_clean base hb k _ _ (Int.tdiv_nonneg h0 (by rcases hb with rfl | rfl <;> omega)) h' c hc
theorem digitsB_clean (base : Int) (hb : base = 10 ∨ base = 16) {n : Int} (h0 : 0 ≤ n) : Clean (digitsB base n) := by
  intro c hc
  unfold digitsB at hc
  obtain ⟨x, hx, rfl⟩ := List.mem_map.1 hc
  obtain ⟨d, d0, d1, rfl⟩ := putL_clean base hb 63 n [] h0 (by simp) x hx
  exact sign_clean d0 d1
theorem decS_clean (n : Int) : Clean (decS n) := digitsB_clean 10 (.inl rfl) (u64Of_ge n)
theorem hexS_clean (n : Int) : Clean (hexS n) := digitsB_clean 16 (.inr rfl) (u64Of_ge n)
theorem toHex_clean : ∀ bs : List Int, (∀ x ∈ bs, 0 ≤ x ∧ x < 256) → Clean (toBytes (hexI bs))
  | [], _ => by intro c hc; simp [hexI, toBytes] at hc
  | x :: r, h => by
    obtain ⟨h0, h1⟩ := h x List.mem_cons_self
    intro c hc
    rw [toHex_cons] at hc
    rcases List.mem_cons.1 hc with rfl | hc
    · exact sign_clean (by omega) (by omega)
    · rcases List.mem_cons.1 hc with rfl | hc
      · exact sign_clean (by omega) (by omega)
      · exact toHex_clean r (fun y hy => h y (List.mem_cons_of_mem _ hy)) c hc
theorem join_one (x : List UInt8) (t : List UInt8) : Lib.join [x] t = x := by simp [Lib.join, List.intercalate]
theorem join_cons (x y : List UInt8) (r : List (List UInt8)) (t : List UInt8) : Lib.join (x :: y :: r) t = x ++ t ++ Lib.join (y :: r) t := by
  simp [Lib.join, List.intercalate]
theorem cutAt_of (c : UInt8) : ∀ (a b : List UInt8), c ∉ a → cutAt c (a ++ c :: b) = some (a, b)
  | [], b, h => by simp [cutAt]
  | x :: r, b, h => by
    have hx : ¬ x = c := fun e => h (by rw [e]; exact List.mem_cons_self)
    show cutAt c (x :: (r ++ c :: b)) = _
    rw [cutAt, if_neg hx, cutAt_of c r b fun e => h (List.mem_cons_of_mem _ e)]
    rfl
theorem cutAt_no (c : UInt8) : ∀ a : List UInt8, c ∉ a → cutAt c a = none
  | [], h => rfl
  | x :: r, h => by
    have hx : ¬ x = c := fun e => h (by rw [e]; exact List.mem_cons_self)
    rw [cutAt, if_neg hx, cutAt_no c r fun e => h (List.mem_cons_of_mem _ e)]
    rfl
theorem split_join (c : UInt8) : ∀ (x : List UInt8) (r : List (List UInt8)), (∀ w ∈ x :: r, c ∉ w) → splitC c (Lib.join (x :: r) [c]) = x :: r
  | x, [], h => by
    rw [join_one, splitC_none c x (cutAt_no c x (h x List.mem_cons_self))]
  | x, y :: r, h => by
    rw [join_cons]
    have hc : cutAt c (x ++ [c] ++ Lib.join (y :: r) [c]) = some (x, Lib.join (y :: r) [c]) := by
      rw [List.append_assoc]
      exact cutAt_of c x _ (h x List.mem_cons_self)
    rw [splitC_some c _ _ hc]
    simp only
    rw [split_join c y r fun w hw => h w (List.mem_cons_of_mem _ hw)]
theorem join_split (c : UInt8) : ∀ (k : Nat) (s : List UInt8), s.length ≤ k → Lib.join (splitC c s) [c] = s
  | k, s, hk => by
    cases hc : cutAt c s with
    | none => rw [splitC_none c s hc, join_one]
    | some p =>
      have he := cutAt_eq c s p hc
      have hl : s.length = p.1.length + (p.2.length + 1) := by rw [he]; simp
      match k, hk with
      | 0, hk => omega
      | k + 1, hk =>
        rw [splitC_some c s p hc]
        have ih := join_split c k p.2 (by omega)
        have hne := splitC_ne c p.2
        cases hs : splitC c p.2 with
        | nil => exact absurd hs hne
        | cons y r =>
          rw [hs] at ih
          rw [join_cons, ih, List.append_assoc]
          exact he.symm
end Go.Ev
