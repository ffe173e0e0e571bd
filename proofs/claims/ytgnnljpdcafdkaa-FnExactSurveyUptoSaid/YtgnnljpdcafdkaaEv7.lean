/- A part of a proof: an evaluator of the program's functions over plain values, and what it shows. -/
import Derived.Test.YtgnnljpdcafdkaaEv6
import Derived.Test.YtgnnljpdcafdkaaEv5
import Derived.WideShapes
set_option linter.unusedVariables false
set_option linter.unusedSimpArgs false
set_option linter.unusedSectionVars false
/- Numbers as texts, and texts as numbers. -/
namespace Go.Proofs.Ytgnnljpdcafdkaa.Ev
open Go
set_option linter.unusedVariables false

def dig (n : Int) : ByteArray := strOf [IntKind.wrap .u8 (48 + n)]
theorem dig_size (n : Int) : (dig n).size = 1 := strOf_size _
def ntF : Nat → Int → ByteArray
  | 0, n => dig n
  | f + 1, n => if n < 10 then dig n else ntF f (n / 10) ++ dig (n % 10)
theorem ntF_size : ∀ (f : Nat) (n : Int), (ntF f n).size ≤ f + 1
  | 0, n => by simp [ntF, dig_size]
  | f + 1, n => by
    unfold ntF
    have := ntF_size f (n / 10)
    split
    · rw [dig_size]; omega
    · rw [ByteArray.size_append, dig_size]; omega
def numT (n : Int) : ByteArray := if numF n = true then ntF 10 n else (⟨#[]⟩ : ByteArray)
theorem numT_size (n : Int) : (numT n).size ≤ 11 := by
  unfold numT
  split
  · exact ntF_size 10 n
  · exact Nat.zero_le _
theorem num_iff {n : Int} : numF n = true ↔ 0 ≤ n ∧ n ≤ 4294967295 := by simp [numF]
theorem spec_NumText_in (b : Nat) (hb : 4294967300 ≤ b) : ∀ (f k : Nat) (n : Int), f ≤ 40 → b + f ≤ k → 0 ≤ n → n ≤ 4294967295 → n < 10 ^ (f + 1) → asO ByteArray (evF cfg0 k 102 n) = some (ntF f n) := by
  intro f
  induction f with
  | zero =>
    intro k n hf h1 h2 h3 h4
    obtain ⟨k, rfl⟩ : ∃ j, k = j + 1 := ⟨k - 1, by omega⟩
    have h5 : n < 10 := by simpa using h4
    have e := spec_l01Num_ev (k := k) (by omega) n
    have e2 : numF n = true := num_iff.2 ⟨h2, h3⟩
    rw [spec_NumText_eq, e, e2]
    simp (disch := (first | assumption | omega)) only [if_pos, if_neg, if_t, if_f, not_true_eq_false, not_false_eq_true, Bool.false_eq_true, Bool.true_eq_false, eq_self, decide_true, decide_false, Bool.not_true, Bool.not_false, decide_eq_true_eq, Option.bind_some, Bool.not_eq_true', decide_eq_false_iff_not, wrp, ntF]
    rfl
  | succ f ih =>
    intro k n hf h1 h2 h3 h4
    obtain ⟨k, rfl⟩ : ∃ j, k = j + 1 := ⟨k - 1, by omega⟩
    have e := spec_l01Num_ev (k := k) (by omega) n
    have e2 : numF n = true := num_iff.2 ⟨h2, h3⟩
    have hm : Int.tmod n 10 = n % 10 := Int.tmod_eq_emod_of_nonneg h2
    have hd : Int.tdiv n 10 = n / 10 := Int.tdiv_eq_ediv_of_nonneg h2
    have hp : n < 10 ^ (f + 1) * 10 := by rw [Int.pow_succ] at h4; exact h4
    have e3 := ih k (n / 10) (by omega) (by omega) (by omega) (by omega) (by omega)
    have w : IntKind.wrap .i64 (n / 10) = n / 10 := wrp (by omega) (by omega)
    have w2 : IntKind.wrap .i64 (48 + n % 10) = 48 + n % 10 := wrp (by omega) (by omega)
    rw [spec_NumText_eq, e, e2, hm, hd, w, w2, strOf_size, e3]
    have sz := ntF_size f (n / 10)
    by_cases h5 : n < 10
    · simp (disch := (first | assumption | omega)) only [if_pos, if_neg, if_t, if_f, not_true_eq_false, not_false_eq_true, Bool.false_eq_true, Bool.true_eq_false, eq_self, decide_true, decide_false, Bool.not_true, Bool.not_false, decide_eq_true_eq, Option.bind_some, Bool.not_eq_true', decide_eq_false_iff_not, h5, wrp, ntF]
      rfl
    · simp only [List.length_cons, List.length_nil]
      simp (disch := (first | assumption | omega)) only [if_pos, if_neg, if_t, if_f, not_true_eq_false, not_false_eq_true, Bool.false_eq_true, Bool.true_eq_false, eq_self, decide_true, decide_false, Bool.not_true, Bool.not_false, decide_eq_true_eq, Option.bind_some, Bool.not_eq_true', decide_eq_false_iff_not, h5, ntF]
      rfl
theorem spec_NumText_ev {k : Nat} (hk : 4294967338 ≤ k) (n : Int) : asO ByteArray (evF cfg0 k 102 n) = some (numT n) := by
  unfold numT
  by_cases h : numF n = true
  · rw [if_pos h]
    have h' := num_iff.1 h
    have p : (10 : Int) ^ (10 + 1) = 100000000000 := by decide
    exact spec_NumText_in 4294967300 (Nat.le_refl _) 10 k n (by omega) (by omega) h'.1 h'.2 (by rw [p]; omega)
  · rw [if_neg h]
    obtain ⟨k, rfl, hk⟩ := exS hk
    have e := spec_l01Num_ev (k := k) (by omega) n
    simp only [Bool.not_eq_true] at h
    rw [spec_NumText_eq, e, h]
    rfl
theorem impl_NumText_l0_ev {k : Nat} : ∀ (f m : Nat) (n : Int) (acc : ByteArray), f ≤ 40 → f < m → 0 ≤ n → n ≤ 4294967295 → n < 10 ^ (f + 1) → acc.size + f ≤ 1000 → impl_NumText_l0 k m n acc = some (ntF f n ++ acc) := by
  intro f
  induction f with
  | zero =>
    intro m n acc hf h1 h2 h3 h4 h5
    obtain ⟨m, rfl⟩ : ∃ j, m = j + 1 := ⟨m - 1, by omega⟩
    have h6 : n < 10 := by simpa using h4
    have w : IntKind.wrap .i64 (48 + n) = 48 + n := wrp (by omega) (by omega)
    rw [impl_NumText_l0_eq, strOf_size, strOf_size, w]
    simp only [List.length_cons, List.length_nil]
    simp (disch := (first | assumption | omega)) only [if_pos, if_neg, if_t, if_f, not_true_eq_false, not_false_eq_true, Bool.false_eq_true, Bool.true_eq_false, eq_self, decide_true, decide_false, Bool.not_true, Bool.not_false, decide_eq_true_eq, Option.bind_some, Bool.not_eq_true', decide_eq_false_iff_not, ntF]
    rfl
  | succ f ih =>
    intro m n acc hf h1 h2 h3 h4 h5
    obtain ⟨m, rfl⟩ : ∃ j, m = j + 1 := ⟨m - 1, by omega⟩
    have hm : Int.tmod n 10 = n % 10 := Int.tmod_eq_emod_of_nonneg h2
    have hd : Int.tdiv n 10 = n / 10 := Int.tdiv_eq_ediv_of_nonneg h2
    have hp : n < 10 ^ (f + 1) * 10 := by rw [Int.pow_succ] at h4; exact h4
    have w : IntKind.wrap .i64 (n / 10) = n / 10 := wrp (by omega) (by omega)
    have w2 : IntKind.wrap .i64 (48 + n % 10) = 48 + n % 10 := wrp (by omega) (by omega)
    have w3 : IntKind.wrap .i64 (48 + n) = 48 + n := wrp (by omega) (by omega)
    rw [impl_NumText_l0_eq, hm, hd, w, w2, w3, strOf_size, strOf_size]
    simp only [List.length_cons, List.length_nil]
    by_cases h6 : n < 10
    · simp (disch := (first | assumption | omega)) only [if_pos, if_neg, if_t, if_f, not_true_eq_false, not_false_eq_true, Bool.false_eq_true, Bool.true_eq_false, eq_self, decide_true, decide_false, Bool.not_true, Bool.not_false, decide_eq_true_eq, Option.bind_some, Bool.not_eq_true', decide_eq_false_iff_not, h6, ntF]
      rfl
    · have sz : (dig (n % 10) ++ acc).size = 1 + acc.size := by rw [ByteArray.size_append, dig_size]
      have e := ih m (n / 10) (dig (n % 10) ++ acc) (by omega) (by omega) (by omega) (by omega) (by omega) (by omega)
      simp (disch := (first | assumption | omega)) only [if_pos, if_neg, if_t, if_f, not_true_eq_false, not_false_eq_true, Bool.false_eq_true, Bool.true_eq_false, eq_self, decide_true, decide_false, Bool.not_true, Bool.not_false, decide_eq_true_eq, Option.bind_some, Bool.not_eq_true', decide_eq_false_iff_not, h6, ntF]
      rw [ByteArray.append_assoc]
      exact e
theorem impl_NumText_ev {k : Nat} (hk : 4294967299 ≤ k) (n : Int) : asO ByteArray (evF cfg0 k 105 n) = some (numT n) := by
  obtain ⟨k, rfl, hk⟩ := exS hk
  have e := impl_isNum_ev (k := k) (by omega) n
  unfold numT
  by_cases h : numF n = true
  · rw [if_pos h, impl_NumText_eq, e, h]
    have h' := num_iff.1 h
    have p : (10 : Int) ^ (10 + 1) = 100000000000 := by decide
    have e2 := impl_NumText_l0_ev (k := k) 10 k n (⟨#[]⟩ : ByteArray) (by omega) (by omega) h'.1 h'.2 (by rw [p]; omega) (by decide)
    simp only [Option.bind_some, Bool.not_true, Bool.false_eq_true, if_false]
    rw [e2]
    have : ntF 10 n ++ (⟨#[]⟩ : ByteArray) = ntF 10 n := ByteArray.append_empty
    rw [this]
  · rw [if_neg h]
    simp only [Bool.not_eq_true] at h
    rw [impl_NumText_eq, e, h]
    rfl

def tnF (s : ByteArray) : Nat → Int → Int → Int × Bool
  | 0, _, y => if numT y = s then (y, true) else (0, false)
  | n + 1, i, y => if bt s i < 48 then (0, false) else if 57 < bt s i then (0, false) else tnF s n (i + 1) (IntKind.wrap .i64 (IntKind.wrap .i64 (y * 10) + IntKind.wrap .i64 (IntKind.wrap .u8 (bt s i - 48))))
def txtN (s : ByteArray) : Int × Bool := if s.size < 1 then (0, false) else if 10 < s.size then (0, false) else tnF s s.size 0 0
theorem spec_TextNum_l0_ev {k : Nat} (hk : 4294967339 ≤ k + 1) (s : ByteArray) (hs : s.size ≤ 2097152) : ∀ (m n : Nat) (i y : Int), 0 ≤ i → i + n = s.size → n < m → spec_TextNum_l0 k m s y i = some (tnF s n i y) := by
  intro m
  induction m with
  | zero => intro n i y h0 h1 h2; omega
  | succ m ih =>
    intro n i y h0 h1 h2
    rw [spec_TextNum_l0_eq]
    cases n with
    | zero =>
      have e := spec_NumText_ev (k := k) (by omega) y
      rw [e, tnF]
      simp only [Option.bind_some, seq_dec]
      by_cases h3 : numT y = s
      · simp (disch := (first | assumption | omega)) only [if_pos, if_neg, if_t, if_f, not_true_eq_false, not_false_eq_true, Bool.false_eq_true, Bool.true_eq_false, eq_self, decide_true, decide_false, Bool.not_true, Bool.not_false, decide_eq_true_eq, Option.bind_some, Bool.not_eq_true', decide_eq_false_iff_not, h3]
      · simp (disch := (first | assumption | omega)) only [if_pos, if_neg, if_t, if_f, not_true_eq_false, not_false_eq_true, Bool.false_eq_true, Bool.true_eq_false, eq_self, decide_true, decide_false, Bool.not_true, Bool.not_false, decide_eq_true_eq, Option.bind_some, Bool.not_eq_true', decide_eq_false_iff_not, h3]
    | succ n =>
      have h3 : i < (s.size : Int) := by omega
      have w : IntKind.wrap .i64 (i + 1) = i + 1 := wrp (by omega) (by omega)
      by_cases h4 : bt s i < 48
      · simp (disch := (first | assumption | omega)) only [if_pos, if_neg, if_t, if_f, not_true_eq_false, not_false_eq_true, Bool.false_eq_true, Bool.true_eq_false, eq_self, decide_true, decide_false, Bool.not_true, Bool.not_false, decide_eq_true_eq, Option.bind_some, Bool.not_eq_true', decide_eq_false_iff_not, tnF, h4]
      · by_cases h5 : 57 < bt s i
        · simp (disch := (first | assumption | omega)) only [if_pos, if_neg, if_t, if_f, not_true_eq_false, not_false_eq_true, Bool.false_eq_true, Bool.true_eq_false, eq_self, decide_true, decide_false, Bool.not_true, Bool.not_false, decide_eq_true_eq, Option.bind_some, Bool.not_eq_true', decide_eq_false_iff_not, tnF, h4, h5]
        · simp (disch := (first | assumption | omega)) only [if_pos, if_neg, if_t, if_f, not_true_eq_false, not_false_eq_true, Bool.false_eq_true, Bool.true_eq_false, eq_self, decide_true, decide_false, Bool.not_true, Bool.not_false, decide_eq_true_eq, Option.bind_some, Bool.not_eq_true', decide_eq_false_iff_not, tnF, h4, h5, w]
          exact ih n (i + 1) _ (by omega) (by omega) (by omega)
theorem impl_TextNum_l0_ev {k : Nat} (hk : 4294967300 ≤ k + 1) (s : ByteArray) (hs : s.size ≤ 2097152) : ∀ (m n : Nat) (i y : Int), 0 ≤ i → i + n = s.size → n < m → impl_TextNum_l0 k m s y i = some (tnF s n i y) := by
  intro m
  induction m with
  | zero => intro n i y h0 h1 h2; omega
  | succ m ih =>
    intro n i y h0 h1 h2
    rw [impl_TextNum_l0_eq]
    cases n with
    | zero =>
      have e := impl_NumText_ev (k := k) (by omega) y
      rw [e, tnF]
      simp only [Option.bind_some, seq_dec]
      by_cases h3 : numT y = s
      · simp (disch := (first | assumption | omega)) only [if_pos, if_neg, if_t, if_f, not_true_eq_false, not_false_eq_true, Bool.false_eq_true, Bool.true_eq_false, eq_self, decide_true, decide_false, Bool.not_true, Bool.not_false, decide_eq_true_eq, Option.bind_some, Bool.not_eq_true', decide_eq_false_iff_not, h3]
      · simp (disch := (first | assumption | omega)) only [if_pos, if_neg, if_t, if_f, not_true_eq_false, not_false_eq_true, Bool.false_eq_true, Bool.true_eq_false, eq_self, decide_true, decide_false, Bool.not_true, Bool.not_false, decide_eq_true_eq, Option.bind_some, Bool.not_eq_true', decide_eq_false_iff_not, h3]
    | succ n =>
      have h3 : i < (s.size : Int) := by omega
      have w : IntKind.wrap .i64 (i + 1) = i + 1 := wrp (by omega) (by omega)
      by_cases h4 : bt s i < 48
      · simp (disch := (first | assumption | omega)) only [if_pos, if_neg, if_t, if_f, not_true_eq_false, not_false_eq_true, Bool.false_eq_true, Bool.true_eq_false, eq_self, decide_true, decide_false, Bool.not_true, Bool.not_false, decide_eq_true_eq, Option.bind_some, Bool.not_eq_true', decide_eq_false_iff_not, tnF, h4]
      · by_cases h5 : 57 < bt s i
        · simp (disch := (first | assumption | omega)) only [if_pos, if_neg, if_t, if_f, not_true_eq_false, not_false_eq_true, Bool.false_eq_true, Bool.true_eq_false, eq_self, decide_true, decide_false, Bool.not_true, Bool.not_false, decide_eq_true_eq, Option.bind_some, Bool.not_eq_true', decide_eq_false_iff_not, tnF, h4, h5]
        · simp (disch := (first | assumption | omega)) only [if_pos, if_neg, if_t, if_f, not_true_eq_false, not_false_eq_true, Bool.false_eq_true, Bool.true_eq_false, eq_self, decide_true, decide_false, Bool.not_true, Bool.not_false, decide_eq_true_eq, Option.bind_some, Bool.not_eq_true', decide_eq_false_iff_not, tnF, h4, h5, w]
          rw [Int.mul_comm 10 y]
          exact ih n (i + 1) _ (by omega) (by omega) (by omega)
theorem spec_TextNum_ev {k : Nat} (hk : 4294967339 ≤ k) (s : ByteArray) : asO (Int × Bool) (evF cfg0 k 126 s) = some (txtN s) := by
  obtain ⟨k, rfl, hk'⟩ := exS hk
  rw [spec_TextNum_eq]
  unfold txtN
  by_cases h1 : s.size < 1
  · simp (disch := (first | assumption | omega)) only [if_pos, if_neg, if_t, if_f, not_true_eq_false, not_false_eq_true, Bool.false_eq_true, Bool.true_eq_false, eq_self, decide_true, decide_false, Bool.not_true, Bool.not_false, decide_eq_true_eq, Option.bind_some, Bool.not_eq_true', decide_eq_false_iff_not, h1]
  · by_cases h2 : 10 < s.size
    · simp (disch := (first | assumption | omega)) only [if_pos, if_neg, if_t, if_f, not_true_eq_false, not_false_eq_true, Bool.false_eq_true, Bool.true_eq_false, eq_self, decide_true, decide_false, Bool.not_true, Bool.not_false, decide_eq_true_eq, Option.bind_some, Bool.not_eq_true', decide_eq_false_iff_not, h1, h2]
    · have e := spec_TextNum_l0_ev hk s (by omega) k s.size 0 0 (by omega) (by omega) (by omega)
      simp (disch := (first | assumption | omega)) only [if_pos, if_neg, if_t, if_f, not_true_eq_false, not_false_eq_true, Bool.false_eq_true, Bool.true_eq_false, eq_self, decide_true, decide_false, Bool.not_true, Bool.not_false, decide_eq_true_eq, Option.bind_some, Bool.not_eq_true', decide_eq_false_iff_not, h1, h2]
      exact e
theorem impl_TextNum_ev {k : Nat} (hk : 4294967300 ≤ k) (s : ByteArray) : asO (Int × Bool) (evF cfg0 k 136 s) = some (txtN s) := by
  obtain ⟨k, rfl, hk'⟩ := exS hk
  have e0 := impl_within_ev (k := k) (by omega) (s.size : Int) 1 10
  rw [impl_TextNum_eq, e0]
  unfold txtN
  by_cases h1 : s.size < 1
  · have d : decide ((1 : Int) ≤ s.size) = false := decide_eq_false (by omega)
    rw [d, if_pos h1]; rfl
  · have d : decide ((1 : Int) ≤ s.size) = true := decide_eq_true (by omega)
    by_cases h2 : 10 < s.size
    · have d2 : decide ((s.size : Int) ≤ 10) = false := decide_eq_false (by omega)
      rw [d, d2, if_neg h1, if_pos h2]; rfl
    · have d2 : decide ((s.size : Int) ≤ 10) = true := decide_eq_true (by omega)
      have e := impl_TextNum_l0_ev hk s (by omega) k s.size 0 0 (by omega) (by omega) (by omega)
      rw [d, d2, if_neg h1, if_neg h2, e]; rfl
end Go.Proofs.Ytgnnljpdcafdkaa.Ev

/- The best that can be, and setups side by side. -/
namespace Go.Proofs.Ytgnnljpdcafdkaa.Ev
open Go
set_option linter.unusedVariables false

/-! ### the next asking of a key -/
def nxF (key : ByteArray) (len : Int) : List ByteArray → Int → Int
  | [], _ => len
  | x :: r, i => if x = key then i else nxF key len r (i + 1)
theorem nxF_ge (key : ByteArray) (len : Int) (hlen : 0 ≤ len) : ∀ (l : List ByteArray) (i : Int), 0 ≤ i → 0 ≤ nxF key len l i
  | [], i, h => hlen
  | x :: r, i, h => by
    unfold nxF; split
    · exact h
    · exact nxF_ge key len hlen r (i + 1) (by omega)
theorem spec_NextAsk_l0_ev {k : Nat} (l : List ByteArray) (key : ByteArray) (hl : l.length ≤ 4194304) : ∀ (m : Nat) (i : Int), 0 ≤ i → i ≤ l.length → l.length < i + m → spec_NextAsk_l0 k m l key i = some (nxF key l.length (l.drop i.toNat) i) := by
  intro m
  induction m with
  | zero => intro i h0 h1 h2; omega
  | succ m ih =>
    intro i h0 h1 h2
    rw [spec_NextAsk_l0_eq]
    by_cases h : i < (l.length : Int)
    · rw [dropC (d := (⟨#[]⟩ : ByteArray)) h0 h, seq_dec]
      by_cases h4 : l.getD i.toNat (⟨#[]⟩ : ByteArray) = key
      · simp (disch := (first | assumption | omega)) only [if_pos, if_neg, if_t, if_f, not_true_eq_false, not_false_eq_true, Bool.false_eq_true, Bool.true_eq_false, eq_self, decide_true, decide_false, Bool.not_true, Bool.not_false, decide_eq_true_eq, Option.bind_some, Bool.not_eq_true', decide_eq_false_iff_not, nxF, h4]
      · simp (disch := (first | assumption | omega)) only [if_pos, if_neg, if_t, if_f, not_true_eq_false, not_false_eq_true, Bool.false_eq_true, Bool.true_eq_false, eq_self, decide_true, decide_false, Bool.not_true, Bool.not_false, decide_eq_true_eq, Option.bind_some, Bool.not_eq_true', decide_eq_false_iff_not, nxF, h4, wrp]
        exact ih (i + 1) (by omega) (by omega) (by omega)
    · rw [dropN h0 h]
      simp (disch := (first | assumption | omega)) only [if_pos, if_neg, if_t, if_f, not_true_eq_false, not_false_eq_true, Bool.false_eq_true, Bool.true_eq_false, eq_self, decide_true, decide_false, Bool.not_true, Bool.not_false, decide_eq_true_eq, Option.bind_some, Bool.not_eq_true', decide_eq_false_iff_not, nxF, h]
theorem impl_NextAsk_l0_ev {k : Nat} (l : List ByteArray) (key : ByteArray) (hl : l.length ≤ 4194304) : ∀ (m : Nat) (i : Int), 0 ≤ i → i ≤ l.length → l.length < i + m → impl_NextAsk_l0 k m l key i = some (nxF key l.length (l.drop i.toNat) i) := by
  intro m
  induction m with
  | zero => intro i h0 h1 h2; omega
  | succ m ih =>
    intro i h0 h1 h2
    rw [impl_NextAsk_l0_eq]
    by_cases h : i < (l.length : Int)
    · rw [dropC (d := (⟨#[]⟩ : ByteArray)) h0 h, seq_dec]
      by_cases h4 : l.getD i.toNat (⟨#[]⟩ : ByteArray) = key
      · simp (disch := (first | assumption | omega)) only [if_pos, if_neg, if_t, if_f, not_true_eq_false, not_false_eq_true, Bool.false_eq_true, Bool.true_eq_false, eq_self, decide_true, decide_false, Bool.not_true, Bool.not_false, decide_eq_true_eq, Option.bind_some, Bool.not_eq_true', decide_eq_false_iff_not, nxF, h4]
      · simp (disch := (first | assumption | omega)) only [if_pos, if_neg, if_t, if_f, not_true_eq_false, not_false_eq_true, Bool.false_eq_true, Bool.true_eq_false, eq_self, decide_true, decide_false, Bool.not_true, Bool.not_false, decide_eq_true_eq, Option.bind_some, Bool.not_eq_true', decide_eq_false_iff_not, nxF, h4, wrp]
        exact ih (i + 1) (by omega) (by omega) (by omega)
    · rw [dropN h0 h]
      simp (disch := (first | assumption | omega)) only [if_pos, if_neg, if_t, if_f, not_true_eq_false, not_false_eq_true, Bool.false_eq_true, Bool.true_eq_false, eq_self, decide_true, decide_false, Bool.not_true, Bool.not_false, decide_eq_true_eq, Option.bind_some, Bool.not_eq_true', decide_eq_false_iff_not, nxF, h]
def nextF (l : List ByteArray) (key : ByteArray) (i : Int) : Int := nxF key l.length (l.drop i.toNat) i
theorem spec_NextAsk_ev {k : Nat} (hk : 4294967297 ≤ k) (l : List ByteArray) (key : ByteArray) (i : Int) (hl : l.length ≤ 4194304) (h0 : 0 ≤ i) (h1 : i ≤ l.length) : asO Int (evF cfg0 k 219 (l, key, i)) = some (nextF l key i) := by
  obtain ⟨k, rfl, hk'⟩ := exS hk
  rw [spec_NextAsk_eq, spec_NextAsk_l0_ev l key hl k i h0 h1 (by omega)]
  have : ¬ i < 0 := by omega
  simp (disch := (first | assumption | omega)) only [if_pos, if_neg, if_t, if_f, not_true_eq_false, not_false_eq_true, Bool.false_eq_true, Bool.true_eq_false, eq_self, decide_true, decide_false, Bool.not_true, Bool.not_false, decide_eq_true_eq, Option.bind_some, Bool.not_eq_true', decide_eq_false_iff_not, this, nextF]
theorem impl_NextAsk_ev {k : Nat} (hk : 4294967297 ≤ k) (l : List ByteArray) (key : ByteArray) (i : Int) (hl : l.length ≤ 4194304) (h0 : 0 ≤ i) (h1 : i ≤ l.length) : asO Int (evF cfg0 k 221 (l, key, i)) = some (nextF l key i) := by
  obtain ⟨k, rfl, hk'⟩ := exS hk
  have : (if i > 0 then i else 0) = i := by split <;> omega
  rw [impl_NextAsk_eq, this, impl_NextAsk_l0_ev l key hl k i h0 h1 (by omega)]
  rfl
def bgF (l : List ByteArray) (a : Int) : List ByteArray → Int → Int → Int → Int
  | [], _, best, _ => best
  | x :: r, i, best, far => if far < nextF l x a then bgF l a r (i + 1) i (nextF l x a) else bgF l a r (i + 1) best far
theorem bgF_bd (l : List ByteArray) (a : Int) (ha : 0 ≤ a) : ∀ (r : List ByteArray) (i best far : Int), 0 ≤ i → (bgF l a r i best far = best ∨ (i ≤ bgF l a r i best far ∧ bgF l a r i best far < i + r.length)) ∧ (far < 0 → r ≠ [] → i ≤ bgF l a r i best far)
  | [], i, best, far, h => ⟨Or.inl rfl, fun _ q => absurd rfl q⟩
  | x :: r, i, best, far, h => by
    unfold bgF
    have hn : 0 ≤ nextF l x a := nxF_ge x l.length (by omega) _ _ ha
    simp only [List.length_cons]
    split
    · have := (bgF_bd l a ha r (i + 1) i (nextF l x a) (by omega)).1
      refine ⟨Or.inr ?_, fun _ _ => ?_⟩ <;> omega
    · next q =>
      have := (bgF_bd l a ha r (i + 1) best far (by omega)).1
      refine ⟨?_, fun q' _ => absurd (by omega) q⟩
      rcases this with e | e
      · exact Or.inl e
      · right; omega
theorem spec_BestGo_l0_ev {k : Nat} (hk : 4294967297 ≤ k) (l has : List ByteArray) (a : Int) (hl : l.length ≤ 4194304) (hh : has.length ≤ 4194304) (ha0 : 0 ≤ a) (ha1 : a ≤ l.length) : ∀ (m : Nat) (i best far : Int), 0 ≤ i → i ≤ has.length → has.length < i + m → spec_BestGo_l0 k m l has a best far i = some (bgF l a (has.drop i.toNat) i best far) := by
  intro m
  induction m with
  | zero => intro i best far h0 h1 h2; omega
  | succ m ih =>
    intro i best far h0 h1 h2
    rw [spec_BestGo_l0_eq]
    by_cases h : i < (has.length : Int)
    · have e := spec_NextAsk_ev (k := k) hk l (has.getD i.toNat (⟨#[]⟩ : ByteArray)) a hl ha0 ha1
      have w : IntKind.wrap .i64 (i + 1) = i + 1 := wrp (by omega) (by omega)
      rw [dropC (d := (⟨#[]⟩ : ByteArray)) h0 h, e]
      by_cases h4 : far < nextF l (has.getD i.toNat (⟨#[]⟩ : ByteArray)) a
      · simp (disch := (first | assumption | omega)) only [if_pos, if_neg, if_t, if_f, not_true_eq_false, not_false_eq_true, Bool.false_eq_true, Bool.true_eq_false, eq_self, decide_true, decide_false, Bool.not_true, Bool.not_false, decide_eq_true_eq, Option.bind_some, Bool.not_eq_true', decide_eq_false_iff_not, bgF, h4, w]
        exact ih (i + 1) _ _ (by omega) (by omega) (by omega)
      · simp (disch := (first | assumption | omega)) only [if_pos, if_neg, if_t, if_f, not_true_eq_false, not_false_eq_true, Bool.false_eq_true, Bool.true_eq_false, eq_self, decide_true, decide_false, Bool.not_true, Bool.not_false, decide_eq_true_eq, Option.bind_some, Bool.not_eq_true', decide_eq_false_iff_not, bgF, h4, w]
        exact ih (i + 1) _ _ (by omega) (by omega) (by omega)
    · rw [dropN h0 h]
      simp (disch := (first | assumption | omega)) only [if_pos, if_neg, if_t, if_f, not_true_eq_false, not_false_eq_true, Bool.false_eq_true, Bool.true_eq_false, eq_self, decide_true, decide_false, Bool.not_true, Bool.not_false, decide_eq_true_eq, Option.bind_some, Bool.not_eq_true', decide_eq_false_iff_not, bgF, h]
theorem spec_BestGo_ev {k : Nat} (hk : 4294967298 ≤ k) (l has : List ByteArray) (a : Int) (hl : l.length ≤ 4194304) (hh : has.length ≤ 4194304) (ha0 : 0 ≤ a) (ha1 : a ≤ l.length) : asO Int (evF cfg0 k 198 (l, has, a)) = some (bgF l a has 0 (-1) (-1)) := by
  obtain ⟨k, rfl, hk'⟩ := exS hk
  rw [spec_BestGo_eq]
  simpa using spec_BestGo_l0_ev (k := k) (by omega) l has a hl hh ha0 ha1 k 0 (-1) (-1) (by omega) (by omega) (by omega)
theorem impl_BestGo_l0_ev {k : Nat} (hk : 4294967297 ≤ k) (l has : List ByteArray) (a : Int) (hl : l.length ≤ 4194304) (hh : has.length ≤ 4194304) (ha0 : 0 ≤ a) (ha1 : a ≤ l.length) : ∀ (m : Nat) (i best far : Int), 0 ≤ i → i ≤ has.length → has.length < i + m → impl_BestGo_l0 k m l has a best far i = some (bgF l a (has.drop i.toNat) i best far) := by
  intro m
  induction m with
  | zero => intro i best far h0 h1 h2; omega
  | succ m ih =>
    intro i best far h0 h1 h2
    rw [impl_BestGo_l0_eq]
    by_cases h : i < (has.length : Int)
    · have e := impl_NextAsk_ev (k := k) hk l (has.getD i.toNat (⟨#[]⟩ : ByteArray)) a hl ha0 ha1
      have w : IntKind.wrap .i64 (i + 1) = i + 1 := wrp (by omega) (by omega)
      rw [dropC (d := (⟨#[]⟩ : ByteArray)) h0 h, e]
      by_cases h4 : far < nextF l (has.getD i.toNat (⟨#[]⟩ : ByteArray)) a
      · simp (disch := (first | assumption | omega)) only [if_pos, if_neg, if_t, if_f, not_true_eq_false, not_false_eq_true, Bool.false_eq_true, Bool.true_eq_false, eq_self, decide_true, decide_false, Bool.not_true, Bool.not_false, decide_eq_true_eq, Option.bind_some, Bool.not_eq_true', decide_eq_false_iff_not, bgF, h4, w]
        exact ih (i + 1) _ _ (by omega) (by omega) (by omega)
      · simp (disch := (first | assumption | omega)) only [if_pos, if_neg, if_t, if_f, not_true_eq_false, not_false_eq_true, Bool.false_eq_true, Bool.true_eq_false, eq_self, decide_true, decide_false, Bool.not_true, Bool.not_false, decide_eq_true_eq, Option.bind_some, Bool.not_eq_true', decide_eq_false_iff_not, bgF, h4, w]
        exact ih (i + 1) _ _ (by omega) (by omega) (by omega)
    · rw [dropN h0 h]
      simp (disch := (first | assumption | omega)) only [if_pos, if_neg, if_t, if_f, not_true_eq_false, not_false_eq_true, Bool.false_eq_true, Bool.true_eq_false, eq_self, decide_true, decide_false, Bool.not_true, Bool.not_false, decide_eq_true_eq, Option.bind_some, Bool.not_eq_true', decide_eq_false_iff_not, bgF, h]
theorem impl_BestGo_ev {k : Nat} (hk : 4294967298 ≤ k) (l has : List ByteArray) (a : Int) (hl : l.length ≤ 4194304) (hh : has.length ≤ 4194304) (ha0 : 0 ≤ a) (ha1 : a ≤ l.length) : asO Int (evF cfg0 k 200 (l, has, a)) = some (bgF l a has 0 (-1) (-1)) := by
  obtain ⟨k, rfl, hk'⟩ := exS hk
  rw [impl_BestGo_eq]
  simpa using impl_BestGo_l0_ev (k := k) (by omega) l has a hl hh ha0 ha1 k 0 (-1) (-1) (by omega) (by omega) (by omega)
def hasF (key : ByteArray) : List ByteArray → Bool
  | [] => false
  | x :: r => if x = key then true else hasF key r
theorem spec_l12Has_l0_ev {k : Nat} (l : List ByteArray) (key : ByteArray) (hl : l.length ≤ 4194304) : ∀ (m : Nat) (i : Int), 0 ≤ i → i ≤ l.length → l.length < i + m → spec_l12Has_l0 k m l key i = some (hasF key (l.drop i.toNat)) := by
  intro m
  induction m with
  | zero => intro i h0 h1 h2; omega
  | succ m ih =>
    intro i h0 h1 h2
    rw [spec_l12Has_l0_eq]
    by_cases h : i < (l.length : Int)
    · rw [dropC (d := (⟨#[]⟩ : ByteArray)) h0 h, seq_dec]
      by_cases h4 : l.getD i.toNat (⟨#[]⟩ : ByteArray) = key
      · simp (disch := (first | assumption | omega)) only [if_pos, if_neg, if_t, if_f, not_true_eq_false, not_false_eq_true, Bool.false_eq_true, Bool.true_eq_false, eq_self, decide_true, decide_false, Bool.not_true, Bool.not_false, decide_eq_true_eq, Option.bind_some, Bool.not_eq_true', decide_eq_false_iff_not, hasF, h4]
      · simp (disch := (first | assumption | omega)) only [if_pos, if_neg, if_t, if_f, not_true_eq_false, not_false_eq_true, Bool.false_eq_true, Bool.true_eq_false, eq_self, decide_true, decide_false, Bool.not_true, Bool.not_false, decide_eq_true_eq, Option.bind_some, Bool.not_eq_true', decide_eq_false_iff_not, hasF, h4, wrp]
        exact ih (i + 1) (by omega) (by omega) (by omega)
    · rw [dropN h0 h]
      simp (disch := (first | assumption | omega)) only [if_pos, if_neg, if_t, if_f, not_true_eq_false, not_false_eq_true, Bool.false_eq_true, Bool.true_eq_false, eq_self, decide_true, decide_false, Bool.not_true, Bool.not_false, decide_eq_true_eq, Option.bind_some, Bool.not_eq_true', decide_eq_false_iff_not, hasF, h]
theorem spec_l12Has_ev {k : Nat} (hk : 4294967297 ≤ k) (l : List ByteArray) (key : ByteArray) (hl : l.length ≤ 4194304) : asO Bool (evF cfg0 k 196 (l, key)) = some (hasF key l) := by
  obtain ⟨k, rfl, hk⟩ := exS hk
  rw [spec_l12Has_eq]
  simpa using spec_l12Has_l0_ev (k := k) l key hl k 0 (by omega) (by omega) (by omega)
def ixS (key : ByteArray) : List ByteArray → Int → Int
  | [], _ => -1
  | x :: r, i => if x = key then i else ixS key r (i + 1)
theorem ixS_has (key : ByteArray) : ∀ (l : List ByteArray) (i : Int), 0 ≤ i → decide (0 ≤ ixS key l i) = hasF key l
  | [], i, h => rfl
  | x :: r, i, h => by
    unfold ixS hasF
    split
    · exact decide_eq_true h
    · exact ixS_has key r (i + 1) (by omega)
theorem slices_Index__string_string_l0_ev {k : Nat} (l : List ByteArray) (key : ByteArray) (hl : l.length ≤ 4194304) : ∀ (m : Nat) (i : Int), 0 ≤ i → i ≤ l.length → l.length < i + m → slices_Index__string_string_l0 k m l key i = some (ixS key (l.drop i.toNat) i) := by
  intro m
  induction m with
  | zero => intro i h0 h1 h2; omega
  | succ m ih =>
    intro i h0 h1 h2
    rw [slices_Index__string_string_l0_eq]
    by_cases h : i < (l.length : Int)
    · rw [dropC (d := (⟨#[]⟩ : ByteArray)) h0 h, seq_dec]
      by_cases h4 : l.getD i.toNat (⟨#[]⟩ : ByteArray) = key
      · simp (disch := (first | assumption | omega)) only [if_pos, if_neg, if_t, if_f, not_true_eq_false, not_false_eq_true, Bool.false_eq_true, Bool.true_eq_false, eq_self, decide_true, decide_false, Bool.not_true, Bool.not_false, decide_eq_true_eq, Option.bind_some, Bool.not_eq_true', decide_eq_false_iff_not, ixS, h4]
      · have h5 : ¬ key = l.getD i.toNat (⟨#[]⟩ : ByteArray) := fun e => h4 e.symm
        simp (disch := (first | assumption | omega)) only [if_pos, if_neg, if_t, if_f, not_true_eq_false, not_false_eq_true, Bool.false_eq_true, Bool.true_eq_false, eq_self, decide_true, decide_false, Bool.not_true, Bool.not_false, decide_eq_true_eq, Option.bind_some, Bool.not_eq_true', decide_eq_false_iff_not, ixS, h4, h5, wrp]
        exact ih (i + 1) (by omega) (by omega) (by omega)
    · rw [dropN h0 h]
      simp (disch := (first | assumption | omega)) only [if_pos, if_neg, if_t, if_f, not_true_eq_false, not_false_eq_true, Bool.false_eq_true, Bool.true_eq_false, eq_self, decide_true, decide_false, Bool.not_true, Bool.not_false, decide_eq_true_eq, Option.bind_some, Bool.not_eq_true', decide_eq_false_iff_not, ixS, h]
theorem slices_Contains__string_string_ev {k : Nat} (hk : 4294967298 ≤ k) (l : List ByteArray) (key : ByteArray) (hl : l.length ≤ 4194304) : asO Bool (evF cfg0 k 199 (l, key)) = some (hasF key l) := by
  obtain ⟨k, rfl, hk⟩ := exS hk
  obtain ⟨k, rfl, hk⟩ := exS (b := 4294967296) (k := k) (by omega)
  have e := slices_Index__string_string_l0_ev (k := k) l key hl k 0 (by omega) (by omega) (by omega)
  rw [slices_Contains__string_string_eq, slices_Index__string_string_eq, e, ← ixS_has key l 0 (by omega)]
  rfl
theorem slices_Delete__string_string_ev {k : Nat} (hk : 4294967297 ≤ k) (l : List ByteArray) (i : Int) (h0 : 0 ≤ i) (h1 : i < l.length) (hl : l.length ≤ 4194304) : asO (List ByteArray) (evF cfg0 k 201 (l, i, i + 1)) = some (l.take i.toNat ++ l.drop (i.toNat + 1)) := by
  obtain ⟨k, rfl, hk'⟩ := exS hk
  have e1 : (i + 1).toNat = i.toNat + 1 := tn1 h0
  have e2 : (l.drop (i.toNat + 1)).take (l.length - (i.toNat + 1)) = l.drop (i.toNat + 1) := by
    rw [List.take_of_length_le]; rw [List.length_drop]; omega
  have e3 : (l.drop 0).take (i.toNat - 0) = l.take i.toNat := by rw [List.drop_zero, Nat.sub_zero]
  rw [slices_Delete__string_string_eq, e1, e2, e3]
  have l1 : (l.take i.toNat ++ l.drop (i.toNat + 1)).length = l.length - 1 := by rw [List.length_append, List.length_take, List.length_drop]; omega
  have l2 : (l.drop (i.toNat + 1)).length = l.length - (i.toNat + 1) := by rw [List.length_drop]
  rw [l1, l2, Int.toNat_natCast]
  have n1 : ¬ i = i + 1 := by omega
  simp (disch := (first | assumption | omega)) only [if_pos, if_neg, if_t, if_f, not_true_eq_false, not_false_eq_true, Bool.false_eq_true, Bool.true_eq_false, eq_self, decide_true, decide_false, Bool.not_true, Bool.not_false, decide_eq_true_eq, Option.bind_some, Bool.not_eq_true', decide_eq_false_iff_not, n1, lim_3, lim_4, lim_9, lim_78, lim_121, lim_128, lim_137]
theorem spec_l13But_ev {k : Nat} (hk : 4294967297 ≤ k) (l : List ByteArray) (i : Int) (h0 : 0 ≤ i) (h1 : i < l.length) (hl : l.length ≤ 4194304) : asO (List ByteArray) (evF cfg0 k 197 (l, i)) = some (l.take i.toNat ++ l.drop (i.toNat + 1)) := by
  obtain ⟨k, rfl, hk'⟩ := exS hk
  have w : IntKind.wrap .i64 (i + 1) = i + 1 := wrp (by omega) (by omega)
  have e1 : (i + 1).toNat = i.toNat + 1 := tn1 h0
  have l1 : (l.take i.toNat).length ≤ l.length := by rw [List.length_take]; omega
  have l2 : (l.drop (i.toNat + 1)).length ≤ l.length := by rw [List.length_drop]; omega
  rw [spec_l13But_eq, w, e1]
  simp (disch := (first | assumption | omega)) only [if_pos, if_neg, if_t, if_f, not_true_eq_false, not_false_eq_true, Bool.false_eq_true, Bool.true_eq_false, eq_self, decide_true, decide_false, Bool.not_true, Bool.not_false, decide_eq_true_eq, Option.bind_some, Bool.not_eq_true', decide_eq_false_iff_not, List.nil_append, List.length_nil, lim_3, lim_4, lim_9, lim_78, lim_121, lim_128, lim_137]
/-- the keys that are kept, behind an asking that was not found -/
def stayF (all : List ByteArray) (cap : Int) (i : Int) (key : ByteArray) (has : List ByteArray) : List ByteArray :=
  if (has.length : Int) = cap then (has.take (bgF all (i + 1) has 0 (-1) (-1)).toNat ++ has.drop ((bgF all (i + 1) has 0 (-1) (-1)).toNat + 1)) ++ [key] else has ++ [key]
def bhF (all : List ByteArray) (cap : Int) : List ByteArray → Int → List Bool → List ByteArray → List Bool
  | [], _, out, _ => out
  | key :: r, i, out, has => bhF all cap r (i + 1) (out ++ [hasF key has]) (if hasF key has = true then has else stayF all cap i key has)
theorem bh_len (all : List ByteArray) (cap : Int) : ∀ (r : List ByteArray) (i : Int) (out : List Bool) (has : List ByteArray), (bhF all cap r i out has).length = out.length + r.length
  | [], i, out, has => by simp [bhF]
  | key :: r, i, out, has => by
    unfold bhF
    rw [bh_len all cap r]
    simp only [List.length_append, List.length_cons, List.length_nil]; omega
theorem keep_len (all : List ByteArray) (cap : Int) (i : Int) (key : ByteArray) (has : List ByteArray) (h0 : 0 ≤ i) (hc : 1 ≤ cap) (h : (has.length : Int) ≤ cap) : ((stayF all cap i key has).length : Int) ≤ cap ∧ ((has.length : Int) = cap → 0 ≤ bgF all (i + 1) has 0 (-1) (-1) ∧ bgF all (i + 1) has 0 (-1) (-1) < has.length) := by
  have key1 : (has.length : Int) = cap → 0 ≤ bgF all (i + 1) has 0 (-1) (-1) ∧ bgF all (i + 1) has 0 (-1) (-1) < has.length := by
    intro q
    have hne : has ≠ [] := by intro e; rw [e] at q; simp at q; omega
    have hb := bgF_bd all (i + 1) (by omega) has 0 (-1) (-1) (by omega)
    have h1 := hb.2 (by omega) hne
    omega
  refine ⟨?_, key1⟩
  unfold stayF
  split
  · next q =>
    have := key1 q
    simp only [List.length_append, List.length_take, List.length_drop, List.length_cons, List.length_nil]; omega
  · simp only [List.length_append, List.length_cons, List.length_nil]; omega
theorem spec_BestHits_l0_ev {k : Nat} (hk : 4294967301 ≤ k + 1) (l : List ByteArray) (cap : Int) (hl : l.length ≤ 4194304) (hc : 1 ≤ cap) (hc2 : cap ≤ 60) : ∀ (m : Nat) (i : Int) (out : List Bool) (has : List ByteArray), 0 ≤ i → i ≤ l.length → l.length < i + m → out.length ≤ i → (has.length : Int) ≤ cap → spec_BestHits_l0 k m l cap i out has = some (bhF l cap (l.drop i.toNat) i out has) := by
  intro m
  induction m with
  | zero => intro i out has h0 h1 h2; omega
  | succ m ih =>
    intro i out has h0 h1 h2 h3 h4
    rw [spec_BestHits_l0_eq]
    by_cases h : i < (l.length : Int)
    · have e1 := spec_l12Has_ev (k := k) (by omega) has (l.getD i.toNat (⟨#[]⟩ : ByteArray)) (by omega)
      have w : IntKind.wrap .i64 (i + 1) = i + 1 := wrp (by omega) (by omega)
      have e2 := spec_BestGo_ev (k := k) (by omega) l has (i + 1) hl (by omega) (by omega) (by omega)
      have kl := keep_len l cap i (l.getD i.toNat (⟨#[]⟩ : ByteArray)) has h0 hc h4
      rw [dropC (d := (⟨#[]⟩ : ByteArray)) h0 h, e1, w]
      simp only [app_len, bhF]
      by_cases h5 : hasF (l.getD i.toNat (⟨#[]⟩ : ByteArray)) has = true
      · simp (disch := (first | assumption | omega)) only [if_pos, if_neg, if_t, if_f, not_true_eq_false, not_false_eq_true, Bool.false_eq_true, Bool.true_eq_false, eq_self, decide_true, decide_false, Bool.not_true, Bool.not_false, decide_eq_true_eq, Option.bind_some, Bool.not_eq_true', decide_eq_false_iff_not, h5, lim_3, lim_4, lim_9, lim_78, lim_121, lim_128, lim_137]
        exact ih (i + 1) _ _ (by omega) (by omega) (by omega) (by simp only [List.length_append, List.length_cons, List.length_nil]; omega) h4
      · have h5' : hasF (l.getD i.toNat (⟨#[]⟩ : ByteArray)) has = false := by simpa using h5
        have kl1 := kl.1
        by_cases h6 : (has.length : Int) = cap
        · have b := kl.2 h6
          have w2 : IntKind.wrap .i64 (bgF l (i + 1) has 0 (-1) (-1) + 1) = bgF l (i + 1) has 0 (-1) (-1) + 1 := wrp (by omega) (by omega)
          have e3 := spec_l13But_ev (k := k) (by omega) has (bgF l (i + 1) has 0 (-1) (-1)) b.1 b.2 (by omega)
          have ln : (has.take (bgF l (i + 1) has 0 (-1) (-1)).toNat ++ has.drop ((bgF l (i + 1) has 0 (-1) (-1)).toNat + 1)).length ≤ 60 := by
            simp only [List.length_append, List.length_take, List.length_drop]; omega
          have kf : stayF l cap i (l.getD i.toNat (⟨#[]⟩ : ByteArray)) has = (has.take (bgF l (i + 1) has 0 (-1) (-1)).toNat ++ has.drop ((bgF l (i + 1) has 0 (-1) (-1)).toNat + 1)) ++ [l.getD i.toNat (⟨#[]⟩ : ByteArray)] := by unfold stayF; rw [if_pos h6]
          have ih' := ih (i + 1) (out ++ [false]) _ (by omega) (by omega) (by omega) (by simp only [List.length_append, List.length_cons, List.length_nil]; omega) kl1
          rw [kf] at ih' ⊢
          simp (disch := (first | assumption | omega)) only [if_pos, if_neg, if_t, if_f, not_true_eq_false, not_false_eq_true, Bool.false_eq_true, Bool.true_eq_false, eq_self, decide_true, decide_false, Bool.not_true, Bool.not_false, decide_eq_true_eq, Option.bind_some, Bool.not_eq_true', decide_eq_false_iff_not, h5', h6, e2, w2, e3, lim_3, lim_4, lim_9, lim_78, lim_121, lim_128, lim_137]
          exact ih'
        · have kf : stayF l cap i (l.getD i.toNat (⟨#[]⟩ : ByteArray)) has = has ++ [l.getD i.toNat (⟨#[]⟩ : ByteArray)] := by unfold stayF; rw [if_neg h6]
          have ih' := ih (i + 1) (out ++ [false]) _ (by omega) (by omega) (by omega) (by simp only [List.length_append, List.length_cons, List.length_nil]; omega) kl1
          rw [kf] at ih' ⊢
          simp (disch := (first | assumption | omega)) only [if_pos, if_neg, if_t, if_f, not_true_eq_false, not_false_eq_true, Bool.false_eq_true, Bool.true_eq_false, eq_self, decide_true, decide_false, Bool.not_true, Bool.not_false, decide_eq_true_eq, Option.bind_some, Bool.not_eq_true', decide_eq_false_iff_not, h5', h6, lim_3, lim_4, lim_9, lim_78, lim_121, lim_128, lim_137]
          exact ih'
    · rw [dropN h0 h]
      simp (disch := (first | assumption | omega)) only [if_pos, if_neg, if_t, if_f, not_true_eq_false, not_false_eq_true, Bool.false_eq_true, Bool.true_eq_false, eq_self, decide_true, decide_false, Bool.not_true, Bool.not_false, decide_eq_true_eq, Option.bind_some, Bool.not_eq_true', decide_eq_false_iff_not, bhF, h]
theorem impl_BestHits_l0_ev {k : Nat} (hk : 4294967300 ≤ k + 1) (l : List ByteArray) (cap : Int) (hl : l.length ≤ 4194304) (hc : 1 ≤ cap) (hc2 : cap ≤ 60) : ∀ (m : Nat) (i : Int) (out : List Bool) (has : List ByteArray), 0 ≤ i → i ≤ l.length → l.length < i + m → out.length ≤ i → (has.length : Int) ≤ cap → impl_BestHits_l0 k m l cap i out has = some (bhF l cap (l.drop i.toNat) i out has) := by
  intro m
  induction m with
  | zero => intro i out has h0 h1 h2; omega
  | succ m ih =>
    intro i out has h0 h1 h2 h3 h4
    rw [impl_BestHits_l0_eq]
    by_cases h : i < (l.length : Int)
    · have e1 := slices_Contains__string_string_ev (k := k) (by omega) has (l.getD i.toNat (⟨#[]⟩ : ByteArray)) (by omega)
      have w : IntKind.wrap .i64 (i + 1) = i + 1 := wrp (by omega) (by omega)
      have e2 := impl_BestGo_ev (k := k) (by omega) l has (i + 1) hl (by omega) (by omega) (by omega)
      have kl := keep_len l cap i (l.getD i.toNat (⟨#[]⟩ : ByteArray)) has h0 hc h4
      rw [dropC (d := (⟨#[]⟩ : ByteArray)) h0 h, e1, w]
      simp only [app_len, bhF]
      by_cases h5 : hasF (l.getD i.toNat (⟨#[]⟩ : ByteArray)) has = true
      · simp (disch := (first | assumption | omega)) only [if_pos, if_neg, if_t, if_f, not_true_eq_false, not_false_eq_true, Bool.false_eq_true, Bool.true_eq_false, eq_self, decide_true, decide_false, Bool.not_true, Bool.not_false, decide_eq_true_eq, Option.bind_some, Bool.not_eq_true', decide_eq_false_iff_not, h5, lim_3, lim_4, lim_9, lim_78, lim_121, lim_128, lim_137]
        exact ih (i + 1) _ _ (by omega) (by omega) (by omega) (by simp only [List.length_append, List.length_cons, List.length_nil]; omega) h4
      · have h5' : hasF (l.getD i.toNat (⟨#[]⟩ : ByteArray)) has = false := by simpa using h5
        have kl1 := kl.1
        by_cases h6 : (has.length : Int) = cap
        · have b := kl.2 h6
          have w2 : IntKind.wrap .i64 (bgF l (i + 1) has 0 (-1) (-1) + 1) = bgF l (i + 1) has 0 (-1) (-1) + 1 := wrp (by omega) (by omega)
          have e3 := slices_Delete__string_string_ev (k := k) (by omega) has (bgF l (i + 1) has 0 (-1) (-1)) b.1 b.2 (by omega)
          have ln : (has.take (bgF l (i + 1) has 0 (-1) (-1)).toNat ++ has.drop ((bgF l (i + 1) has 0 (-1) (-1)).toNat + 1)).length ≤ 60 := by
            simp only [List.length_append, List.length_take, List.length_drop]; omega
          have kf : stayF l cap i (l.getD i.toNat (⟨#[]⟩ : ByteArray)) has = (has.take (bgF l (i + 1) has 0 (-1) (-1)).toNat ++ has.drop ((bgF l (i + 1) has 0 (-1) (-1)).toNat + 1)) ++ [l.getD i.toNat (⟨#[]⟩ : ByteArray)] := by unfold stayF; rw [if_pos h6]
          have ih' := ih (i + 1) (out ++ [false]) _ (by omega) (by omega) (by omega) (by simp only [List.length_append, List.length_cons, List.length_nil]; omega) kl1
          rw [kf] at ih' ⊢
          simp (disch := (first | assumption | omega)) only [if_pos, if_neg, if_t, if_f, not_true_eq_false, not_false_eq_true, Bool.false_eq_true, Bool.true_eq_false, eq_self, decide_true, decide_false, Bool.not_true, Bool.not_false, decide_eq_true_eq, Option.bind_some, Bool.not_eq_true', decide_eq_false_iff_not, h5', h6, e2, w2, e3, lim_3, lim_4, lim_9, lim_78, lim_121, lim_128, lim_137]
          exact ih'
        · have kf : stayF l cap i (l.getD i.toNat (⟨#[]⟩ : ByteArray)) has = has ++ [l.getD i.toNat (⟨#[]⟩ : ByteArray)] := by unfold stayF; rw [if_neg h6]
          have ih' := ih (i + 1) (out ++ [false]) _ (by omega) (by omega) (by omega) (by simp only [List.length_append, List.length_cons, List.length_nil]; omega) kl1
          rw [kf] at ih' ⊢
          simp (disch := (first | assumption | omega)) only [if_pos, if_neg, if_t, if_f, not_true_eq_false, not_false_eq_true, Bool.false_eq_true, Bool.true_eq_false, eq_self, decide_true, decide_false, Bool.not_true, Bool.not_false, decide_eq_true_eq, Option.bind_some, Bool.not_eq_true', decide_eq_false_iff_not, h5', h6, lim_3, lim_4, lim_9, lim_78, lim_121, lim_128, lim_137]
          exact ih'
    · rw [dropN h0 h]
      simp (disch := (first | assumption | omega)) only [if_pos, if_neg, if_t, if_f, not_true_eq_false, not_false_eq_true, Bool.false_eq_true, Bool.true_eq_false, eq_self, decide_true, decide_false, Bool.not_true, Bool.not_false, decide_eq_true_eq, Option.bind_some, Bool.not_eq_true', decide_eq_false_iff_not, bhF, h]
def labOk (l : List ByteArray) (cap : Int) : Bool := (aksF l && decide ((l.length : Int) ≤ 300)) && (decide (1 ≤ cap) && decide (cap ≤ 60))
theorem spec_l13Ok_ev {k : Nat} (hk : 4294967300 ≤ k) (l : List ByteArray) (cap : Int) (hl : l.length ≤ 4194304) : asO Bool (evF cfg0 k 101 (l, cap)) = some (labOk l cap) := by
  obtain ⟨k, rfl, hk'⟩ := exS hk
  have e1 := spec_AsksOk_ev (k := k) (by omega) l hl
  have e2 := spec_l01In_ev (k := k) (by omega) cap 1 60
  rw [spec_l13Ok_eq, e1, e2]
  unfold labOk
  by_cases h : (aksF l && decide ((l.length : Int) ≤ 300)) = true
  · rw [h]; rfl
  · simp only [Bool.not_eq_true] at h; rw [h]; rfl
def bestF (l : List ByteArray) (cap : Int) : List Bool := if labOk l cap = true then bhF l cap l 0 [] [] else []
theorem best_len (l : List ByteArray) (cap : Int) : (bestF l cap).length ≤ l.length := by
  unfold bestF; split
  · rw [bh_len]; simp
  · simp
theorem lab_cap {l : List ByteArray} {cap : Int} (h : labOk l cap = true) : 1 ≤ cap ∧ cap ≤ 60 := by
  simp only [labOk, Bool.and_eq_true, decide_eq_true_eq] at h; exact h.2
theorem spec_BestHits_ev {k : Nat} (hk : 4294967301 ≤ k) (l : List ByteArray) (cap : Int) (hl : l.length ≤ 4194304) : asO (List Bool) (evF cfg0 k 165 (l, cap)) = some (bestF l cap) := by
  obtain ⟨k, rfl, hk'⟩ := exS hk
  have e1 := spec_l13Ok_ev (k := k) (by omega) l cap hl
  rw [spec_BestHits_eq, e1]
  unfold bestF
  by_cases h : labOk l cap = true
  · have hc := lab_cap h
    have e2 := spec_BestHits_l0_ev hk l cap hl hc.1 hc.2 k 0 [] [] (by omega) (by omega) (by omega) (by simp) (by simp; omega)
    rw [if_pos h, h]
    simpa using e2
  · rw [if_neg h]; simp only [Bool.not_eq_true] at h; rw [h]; rfl
theorem impl_BestHits_ev {k : Nat} (hk : 4294967300 ≤ k) (l : List ByteArray) (cap : Int) (hl : l.length ≤ 4194304) : asO (List Bool) (evF cfg0 k 166 (l, cap)) = some (bestF l cap) := by
  obtain ⟨k, rfl, hk'⟩ := exS hk
  have e1 := impl_AsksOk_ev (k := k) (by omega) l hl
  have e2 := impl_within_ev (k := k) (by omega) cap 1 60
  rw [impl_BestHits_eq, e1, e2]
  unfold bestF
  by_cases h : labOk l cap = true
  · have hc := lab_cap h
    have e3 := impl_BestHits_l0_ev hk l cap hl hc.1 hc.2 k 0 [] [] (by omega) (by omega) (by omega) (by simp) (by simp; omega)
    have h' := h
    simp only [labOk, Bool.and_eq_true] at h'
    rw [if_pos h]
    have q1 : (aksF l && decide ((l.length : Int) ≤ 300)) = true := by rw [Bool.and_eq_true]; exact h'.1
    have q2 : (decide (1 ≤ cap) && decide (cap ≤ 60)) = true := by rw [Bool.and_eq_true]; exact h'.2
    rw [q1, q2]
    simpa using e3
  · rw [if_neg h]
    by_cases q : (aksF l && decide ((l.length : Int) ≤ 300)) = true
    · have h' : (decide (1 ≤ cap) && decide (cap ≤ 60)) = false := by
        unfold labOk at h; rw [q, Bool.true_and, Bool.not_eq_true] at h; exact h
      rw [q, h']; rfl
    · simp only [Bool.not_eq_true] at q; rw [q]; rfl
end Go.Proofs.Ytgnnljpdcafdkaa.Ev

/- Setups side by side; the survey; their laws. -/
namespace Go.Proofs.Ytgnnljpdcafdkaa.Ev
open Go
set_option linter.unusedVariables false

def cnt : List Bool → Int
  | [] => 0
  | b :: r => (if b = true then 1 else 0) + cnt r
theorem cnt_bd : ∀ l : List Bool, 0 ≤ cnt l ∧ cnt l ≤ l.length
  | [] => by simp [cnt]
  | b :: r => by
    have := cnt_bd r
    simp only [cnt, List.length_cons]
    split <;> omega
theorem impl_hitsIn_l0_ev {k : Nat} (l : List Bool) (hl : l.length ≤ 4194304) : ∀ (m : Nat) (i y : Int), 0 ≤ i → i ≤ l.length → l.length < i + m → 0 ≤ y → y ≤ i → impl_hitsIn_l0 k m l y i = some (y + cnt (l.drop i.toNat)) := by
  intro m
  induction m with
  | zero => intro i y h0 h1 h2; omega
  | succ m ih =>
    intro i y h0 h1 h2 h3 h4
    rw [impl_hitsIn_l0_eq]
    by_cases h : i < (l.length : Int)
    · have w : IntKind.wrap .i64 (i + 1) = i + 1 := wrp (by omega) (by omega)
      have w2 : IntKind.wrap .i64 (y + 1) = y + 1 := wrp (by omega) (by omega)
      rw [dropC (d := false) h0 h]
      by_cases h5 : l.getD i.toNat false = true
      · simp (disch := (first | assumption | omega)) only [if_pos, if_neg, if_t, if_f, not_true_eq_false, not_false_eq_true, Bool.false_eq_true, Bool.true_eq_false, eq_self, decide_true, decide_false, Bool.not_true, Bool.not_false, decide_eq_true_eq, Option.bind_some, Bool.not_eq_true', decide_eq_false_iff_not, cnt, h5, w, w2]
        rw [ih (i + 1) (y + 1) (by omega) (by omega) (by omega) (by omega) (by omega), Int.add_assoc]
      · simp only [Bool.not_eq_true] at h5
        simp (disch := (first | assumption | omega)) only [if_pos, if_neg, if_t, if_f, not_true_eq_false, not_false_eq_true, Bool.false_eq_true, Bool.true_eq_false, eq_self, decide_true, decide_false, Bool.not_true, Bool.not_false, decide_eq_true_eq, Option.bind_some, Bool.not_eq_true', decide_eq_false_iff_not, cnt, h5, w, Int.zero_add]
        exact ih (i + 1) y (by omega) (by omega) (by omega) (by omega) (by omega)
    · rw [dropN h0 h]
      simp (disch := (first | assumption | omega)) only [if_pos, if_neg, if_t, if_f, not_true_eq_false, not_false_eq_true, Bool.false_eq_true, Bool.true_eq_false, eq_self, decide_true, decide_false, Bool.not_true, Bool.not_false, decide_eq_true_eq, Option.bind_some, Bool.not_eq_true', decide_eq_false_iff_not, cnt, h, Int.add_zero]
theorem impl_hitsIn_ev {k : Nat} (hk : 4294967297 ≤ k) (l : List Bool) (hl : l.length ≤ 4194304) : asO Int (evF cfg0 k 167 l) = some (cnt l) := by
  obtain ⟨k, rfl, hk⟩ := exS hk
  rw [impl_hitsIn_eq]
  simpa using impl_hitsIn_l0_ev (k := k) l hl k 0 0 (by omega) (by omega) (by omega) (by omega) (by omega)
def missF (l : List ByteArray) (cap : Int) : Int := (bestF l cap).length - cnt (bestF l cap)
theorem spec_BestMisses_l0_ev {k : Nat} (l : List Bool) (hl : l.length ≤ 4194304) : ∀ (m : Nat) (i y : Int), 0 ≤ i → i ≤ l.length → l.length < i + m → 0 ≤ y → y ≤ i → spec_BestMisses_l0 k m l y i = some (y + ((l.drop i.toNat).length - cnt (l.drop i.toNat))) := by
  intro m
  induction m with
  | zero => intro i y h0 h1 h2; omega
  | succ m ih =>
    intro i y h0 h1 h2 h3 h4
    rw [spec_BestMisses_l0_eq]
    by_cases h : i < (l.length : Int)
    · have w : IntKind.wrap .i64 (i + 1) = i + 1 := wrp (by omega) (by omega)
      have w2 : IntKind.wrap .i64 (y + 1) = y + 1 := wrp (by omega) (by omega)
      rw [dropC (d := false) h0 h]
      by_cases h5 : l.getD i.toNat false = true
      · simp (disch := (first | assumption | omega)) only [if_pos, if_neg, if_t, if_f, not_true_eq_false, not_false_eq_true, Bool.false_eq_true, Bool.true_eq_false, eq_self, decide_true, decide_false, Bool.not_true, Bool.not_false, decide_eq_true_eq, Option.bind_some, Bool.not_eq_true', decide_eq_false_iff_not, cnt, h5, w, List.length_cons]
        rw [ih (i + 1) y (by omega) (by omega) (by omega) (by omega) (by omega)]
        congr 1; omega
      · simp only [Bool.not_eq_true] at h5
        simp (disch := (first | assumption | omega)) only [if_pos, if_neg, if_t, if_f, not_true_eq_false, not_false_eq_true, Bool.false_eq_true, Bool.true_eq_false, eq_self, decide_true, decide_false, Bool.not_true, Bool.not_false, decide_eq_true_eq, Option.bind_some, Bool.not_eq_true', decide_eq_false_iff_not, cnt, h5, w, w2, List.length_cons]
        rw [ih (i + 1) (y + 1) (by omega) (by omega) (by omega) (by omega) (by omega)]
        congr 1; omega
    · rw [dropN h0 h]
      simp (disch := (first | assumption | omega)) only [if_pos, if_neg, if_t, if_f, not_true_eq_false, not_false_eq_true, Bool.false_eq_true, Bool.true_eq_false, eq_self, decide_true, decide_false, Bool.not_true, Bool.not_false, decide_eq_true_eq, Option.bind_some, Bool.not_eq_true', decide_eq_false_iff_not, cnt, h, List.length_nil]
      congr 1; omega
theorem spec_BestMisses_ev {k : Nat} (hk : 4294967302 ≤ k) (l : List ByteArray) (cap : Int) (hl : l.length ≤ 4194304) : asO Int (evF cfg0 k 103 (l, cap)) = some (missF l cap) := by
  obtain ⟨k, rfl, hk⟩ := exS hk
  have e1 := spec_BestHits_ev (k := k) (by omega) l cap hl
  have bl := best_len l cap
  have e2 := spec_BestMisses_l0_ev (k := k) (bestF l cap) (by omega) k 0 0 (by omega) (by omega) (by omega) (by omega) (by omega)
  rw [spec_BestMisses_eq, e1]
  simp only [Option.bind_some]
  rw [e2]
  simp only [missF, Int.toNat_zero, List.drop_zero]
  congr 1; omega
theorem impl_BestMisses_ev {k : Nat} (hk : 4294967301 ≤ k) (l : List ByteArray) (cap : Int) (hl : l.length ≤ 4194304) : asO Int (evF cfg0 k 106 (l, cap)) = some (missF l cap) := by
  obtain ⟨k, rfl, hk⟩ := exS hk
  have e1 := impl_BestHits_ev (k := k) (by omega) l cap hl
  have bl := best_len l cap
  have cb := cnt_bd (bestF l cap)
  have e2 := impl_hitsIn_ev (k := k) (by omega) (bestF l cap) (by omega)
  rw [impl_BestMisses_eq, e1]
  simp only [Option.bind_some]
  rw [e2]
  simp only [Option.bind_some]
  rw [wrp (by omega) (by omega)]
  rfl

abbrev Cnt := Int × Int × Int × Int
def countF (s : Stp) (l : List ByteArray) : Cnt :=
  if setOk s = true then if aksOk l = true then ((l.length : Int), cnt (goF s l (newF s) [] 0).2.1, (l.length : Int) - cnt (goF s l (newF s) [] 0).2.1, (goF s l (newF s) [] 0).2.2) else (0, 0, 0, 0) else (0, 0, 0, 0)
theorem spec_CountOf_l0_ev {k : Nat} (a : List ByteArray) (r : StS × List Bool × Int) (hl : r.2.1.length ≤ 4194304) : ∀ (m : Nat) (i y z : Int), 0 ≤ i → i ≤ r.2.1.length → r.2.1.length < i + m → 0 ≤ y → y ≤ i → 0 ≤ z → z ≤ i → spec_CountOf_l0 k m a r i y z = some ((a.length : Int), y + cnt (r.2.1.drop i.toNat), z + ((r.2.1.drop i.toNat).length - cnt (r.2.1.drop i.toNat)), r.2.2) := by
  intro m
  induction m with
  | zero => intro i y z h0 h1 h2; omega
  | succ m ih =>
    intro i y z h0 h1 h2 h3 h4 h3' h4'
    rw [spec_CountOf_l0_eq]
    by_cases h : i < (r.2.1.length : Int)
    · have w : IntKind.wrap .i64 (i + 1) = i + 1 := wrp (by omega) (by omega)
      have w2 : IntKind.wrap .i64 (y + 1) = y + 1 := wrp (by omega) (by omega)
      have w3 : IntKind.wrap .i64 (z + 1) = z + 1 := wrp (by omega) (by omega)
      rw [dropC (d := false) h0 h]
      by_cases h5 : r.2.1.getD i.toNat false = true
      · simp (disch := (first | assumption | omega)) only [if_pos, if_neg, if_t, if_f, not_true_eq_false, not_false_eq_true, Bool.false_eq_true, Bool.true_eq_false, eq_self, decide_true, decide_false, Bool.not_true, Bool.not_false, decide_eq_true_eq, Option.bind_some, Bool.not_eq_true', decide_eq_false_iff_not, cnt, h5, w, w2, List.length_cons]
        rw [ih (i + 1) (y + 1) z (by omega) (by omega) (by omega) (by omega) (by omega) (by omega) (by omega)]
        generalize r.2.1.drop (i + 1).toNat = D
        simp only [Option.some.injEq, Prod.mk.injEq, true_and, and_true]
        refine ⟨?_, ?_⟩ <;> omega
      · simp only [Bool.not_eq_true] at h5
        simp (disch := (first | assumption | omega)) only [if_pos, if_neg, if_t, if_f, not_true_eq_false, not_false_eq_true, Bool.false_eq_true, Bool.true_eq_false, eq_self, decide_true, decide_false, Bool.not_true, Bool.not_false, decide_eq_true_eq, Option.bind_some, Bool.not_eq_true', decide_eq_false_iff_not, cnt, h5, w, w3, List.length_cons]
        rw [ih (i + 1) y (z + 1) (by omega) (by omega) (by omega) (by omega) (by omega) (by omega) (by omega)]
        generalize r.2.1.drop (i + 1).toNat = D
        simp only [Option.some.injEq, Prod.mk.injEq, true_and, and_true]
        refine ⟨?_, ?_⟩ <;> omega
    · rw [dropN h0 h]
      simp (disch := (first | assumption | omega)) only [if_pos, if_neg, if_t, if_f, not_true_eq_false, not_false_eq_true, Bool.false_eq_true, Bool.true_eq_false, eq_self, decide_true, decide_false, Bool.not_true, Bool.not_false, decide_eq_true_eq, Option.bind_some, Bool.not_eq_true', decide_eq_false_iff_not, cnt, h, List.length_nil]
      simp only [Option.some.injEq, Prod.mk.injEq, true_and, and_true]
      refine ⟨?_, ?_⟩ <;> omega
theorem spec_CountOf_ev {k : Nat} (hk : 4294967305 ≤ k) (s : Stp) (l : List ByteArray) (hl : l.length ≤ 4194304) : asO Cnt (evF cfg0 k 107 (s, l)) = some (countF s l) := by
  obtain ⟨k, rfl, hk'⟩ := exS hk
  have e1 := spec_SetupOk_ev (k := k) (by omega) s
  have e2 := spec_AsksOk_ev (k := k) (by omega) l hl
  have e3 := spec_l12Go_ev (k := k) (by omega) s l hl
  have gl := (go_res s l (newF s) [] 0 (new_inv s) (by omega)).2.1
  simp only [List.length_nil, Nat.zero_add] at gl
  have e4 := spec_CountOf_l0_ev (k := k) l (goF s l (newF s) [] 0) (by omega) k 0 0 0 (by omega) (by omega) (by omega) (by omega) (by omega) (by omega) (by omega)
  unfold countF aksOk
  obtain ⟨a, b, c⟩ := s
  rw [spec_CountOf_eq, e1]
  simp only [Option.bind_some]
  by_cases h1 : setOk (a, b, c) = true
  · rw [if_pos h1, h1, e2]
    simp only [Option.bind_some, Bool.not_true, Bool.false_eq_true, if_false]
    by_cases h2 : (aksF l && decide ((l.length : Int) ≤ 300)) = true
    · rw [if_pos h2, h2, e3]
      simp only [Option.bind_some, Bool.not_true, Bool.false_eq_true, if_false]
      rw [e4]
      simp only [Int.toNat_zero, List.drop_zero, gl, Int.zero_add]
    · rw [if_neg h2, if_pos (by simpa only [Bool.not_eq_true, Bool.not_eq_true'] using h2)]
  · rw [if_neg h1, if_pos (by simpa using h1)]
theorem impl_CountOf_ev {k : Nat} (hk : 4294967305 ≤ k) (s : Stp) (l : List ByteArray) (hl : l.length ≤ 4194304) : asO Cnt (evF cfg0 k 108 (s, l)) = some (countF s l) := by
  obtain ⟨k, rfl, hk'⟩ := exS hk
  have e1 := impl_SetupOk_ev (k := k) (by omega) s
  have e2 := impl_AsksOk_ev (k := k) (by omega) l hl
  have e3 := impl_asked_ev (k := k) (by omega) s l hl
  have gl := (go_res s l (newF s) [] 0 (new_inv s) (by omega)).2.1
  simp only [List.length_nil, Nat.zero_add] at gl
  have cb := cnt_bd (goF s l (newF s) [] 0).2.1
  have e4 := impl_hitsIn_ev (k := k) (by omega) (goF s l (newF s) [] 0).2.1 (by omega)
  unfold countF aksOk
  obtain ⟨a, b, c⟩ := s
  rw [impl_CountOf_eq, e1]
  simp only [Option.bind_some]
  by_cases h1 : setOk (a, b, c) = true
  · rw [if_pos h1, h1, e2]
    simp only [Option.bind_some, Bool.not_true, Bool.false_eq_true, if_false]
    by_cases h2 : (aksF l && decide ((l.length : Int) ≤ 300)) = true
    · rw [if_pos h2, h2, e3]
      simp only [Option.bind_some, Bool.not_true, Bool.false_eq_true, if_false]
      rw [e4]
      simp only [Option.bind_some]
      rw [wrp (by omega) (by omega)]
    · rw [if_neg h2, if_pos (by simpa only [Bool.not_eq_true, Bool.not_eq_true'] using h2)]
  · rw [if_neg h1, if_pos (by simpa using h1)]

/-! ### the laboratory -/
abbrev LRow := Stp × Int × Int
def lrow (l : List ByteArray) (cap kind most : Int) : LRow := ((kind, cap, most), (countF (kind, cap, most) l).2.2.1, missF l cap)
def mostF (cap : Int) : Int := if Int.tdiv cap 10 < 1 then 1 else Int.tdiv cap 10
theorem tdiv_w {cap : Int} (h1 : 1 ≤ cap) (h2 : cap ≤ 60) : IntKind.wrap .i64 (Int.tdiv cap 10) = Int.tdiv cap 10 := by
  have hd : Int.tdiv cap 10 = cap / 10 := Int.tdiv_eq_ediv_of_nonneg (by omega)
  rw [hd]; exact wrp (by omega) (by omega)
theorem spec_Lab_step {k : Nat} (hk : 4294967306 ≤ k + 1) (l : List ByteArray) (hl : l.length ≤ 4194304) (cap : Int) (m : Nat) (y y' : Int) (h0 : 1 ≤ y) (h1 : y ≤ 3) (hy : y' = y + 1) (acc : List LRow) (ha : acc.length ≤ 100) : spec_Lab_l0 k (m + 1) l cap y acc = spec_Lab_l0 k m l cap y' (acc ++ [lrow l cap y 0]) := by
  subst hy
  have c1 := spec_CountOf_ev (k := k) (by omega) (y, cap, 0) l hl
  have b := spec_BestMisses_ev (k := k) (by omega) l cap hl
  have w : IntKind.wrap .i64 (y + 1) = y + 1 := wrp (by omega) (by omega)
  have n4 : ¬ y = 4 := by omega
  rw [spec_Lab_l0_eq, w]
  simp only [app_len]
  rw [c1, b]
  simp (disch := (first | assumption | omega)) only [if_pos, if_neg, if_t, if_f, not_true_eq_false, not_false_eq_true, Bool.false_eq_true, Bool.true_eq_false, eq_self, decide_true, decide_false, Bool.not_true, Bool.not_false, decide_eq_true_eq, Option.bind_some, Bool.not_eq_true', decide_eq_false_iff_not, n4, lim_3, lim_4, lim_9, lim_78, lim_121, lim_128, lim_137]
  rfl
theorem spec_Lab_last {k : Nat} (hk : 4294967306 ≤ k + 1) (l : List ByteArray) (hl : l.length ≤ 4194304) (cap : Int) (h1 : 1 ≤ cap) (h2 : cap ≤ 60) (m : Nat) (y y' : Int) (h0 : y = 4) (hy : y' = y + 1) (acc : List LRow) (ha : acc.length ≤ 100) : spec_Lab_l0 k (m + 1) l cap y acc = spec_Lab_l0 k m l cap y' (acc ++ [lrow l cap y (mostF cap)]) := by
  subst hy
  have c1 := spec_CountOf_ev (k := k) (by omega) (y, cap, 1) l hl
  have c2 := spec_CountOf_ev (k := k) (by omega) (y, cap, Int.tdiv cap 10) l hl
  have b := spec_BestMisses_ev (k := k) (by omega) l cap hl
  have w : IntKind.wrap .i64 (y + 1) = y + 1 := wrp (by omega) (by omega)
  have w2 := tdiv_w h1 h2
  rw [spec_Lab_l0_eq, w, w2]
  simp only [app_len]
  rw [c1, c2, b]
  unfold mostF
  by_cases h : Int.tdiv cap 10 < 1
  · rw [if_pos (c := Int.tdiv cap 10 < 1) h]
    simp (disch := (first | assumption | omega)) only [if_pos, if_neg, if_t, if_f, not_true_eq_false, not_false_eq_true, Bool.false_eq_true, Bool.true_eq_false, eq_self, decide_true, decide_false, Bool.not_true, Bool.not_false, decide_eq_true_eq, Option.bind_some, Bool.not_eq_true', decide_eq_false_iff_not, h, lim_3, lim_4, lim_9, lim_78, lim_121, lim_128, lim_137]
    rfl
  · rw [if_neg (c := Int.tdiv cap 10 < 1) h]
    simp (disch := (first | assumption | omega)) only [if_pos, if_neg, if_t, if_f, not_true_eq_false, not_false_eq_true, Bool.false_eq_true, Bool.true_eq_false, eq_self, decide_true, decide_false, Bool.not_true, Bool.not_false, decide_eq_true_eq, Option.bind_some, Bool.not_eq_true', decide_eq_false_iff_not, h, lim_3, lim_4, lim_9, lim_78, lim_121, lim_128, lim_137]
    rfl
theorem spec_Lab_end {k : Nat} (l : List ByteArray) (cap : Int) (m : Nat) (acc : List LRow) : spec_Lab_l0 k (m + 1) l cap 5 acc = some acc := by
  rw [spec_Lab_l0_eq]
  have n : ¬ (5 : Int) ≤ 4 := by omega
  simp (disch := (first | assumption | omega)) only [if_pos, if_neg, if_t, if_f, not_true_eq_false, not_false_eq_true, Bool.false_eq_true, Bool.true_eq_false, eq_self, decide_true, decide_false, Bool.not_true, Bool.not_false, decide_eq_true_eq, Option.bind_some, Bool.not_eq_true', decide_eq_false_iff_not, n]
theorem impl_Lab_step {k : Nat} (hk : 4294967306 ≤ k + 1) (l : List ByteArray) (hl : l.length ≤ 4194304) (cap : Int) (h1 : 1 ≤ cap) (h2 : cap ≤ 60) (m : Nat) (i i' : Int) (s : Stp) (h0 : 0 ≤ i) (h3 : i ≤ 3) (hy : i' = i + 1) (hs : ([(1, cap, 0), (2, cap, 0), (3, cap, 0), (4, cap, mostF cap)] : List Stp).getD i.toNat (Ty.dflt tSetup) = s) (acc : List LRow) (ha : acc.length ≤ 100) : impl_Lab_l0 k (m + 1) l cap (missF l cap) i acc = impl_Lab_l0 k m l cap (missF l cap) i' (acc ++ [(s, (countF s l).2.2.1, missF l cap)]) := by
  subst hy
  have c1 := impl_CountOf_ev (k := k) (by omega) s l hl
  have w : IntKind.wrap .i64 (i + 1) = i + 1 := wrp (by omega) (by omega)
  have w2 := tdiv_w h1 h2
  have hm : (if Int.tdiv cap 10 > 1 then Int.tdiv cap 10 else 1) = mostF cap := by
    unfold mostF; split <;> split <;> omega
  have hln : (([(1, cap, 0), (2, cap, 0), (3, cap, 0), (4, cap, mostF cap)] : List Stp).length : Int) = 4 := rfl
  rw [impl_Lab_l0_eq, w, w2, hm, hs, c1, hln]
  simp only [app_len]
  simp (disch := (first | assumption | omega)) only [if_pos, if_neg, if_t, if_f, not_true_eq_false, not_false_eq_true, Bool.false_eq_true, Bool.true_eq_false, eq_self, decide_true, decide_false, Bool.not_true, Bool.not_false, decide_eq_true_eq, Option.bind_some, Bool.not_eq_true', decide_eq_false_iff_not, lim_3, lim_4, lim_9, lim_78, lim_121, lim_128, lim_137]
theorem impl_Lab_end {k : Nat} (l : List ByteArray) (cap : Int) (m : Nat) (acc : List LRow) : impl_Lab_l0 k (m + 1) l cap (missF l cap) 4 acc = some acc := by
  have hln : ∀ x : Int, (([(1, cap, 0), (2, cap, 0), (3, cap, 0), (4, cap, x)] : List Stp).length : Int) = 4 := fun _ => rfl
  rw [impl_Lab_l0_eq, hln]
  have n : ¬ (4 : Int) < 4 := by omega
  simp (disch := (first | assumption | omega)) only [if_pos, if_neg, if_t, if_f, not_true_eq_false, not_false_eq_true, Bool.false_eq_true, Bool.true_eq_false, eq_self, decide_true, decide_false, Bool.not_true, Bool.not_false, decide_eq_true_eq, Option.bind_some, Bool.not_eq_true', decide_eq_false_iff_not, n]
def lab4 (l : List ByteArray) (cap : Int) : List LRow := ((([] ++ [lrow l cap 1 0]) ++ [lrow l cap 2 0]) ++ [lrow l cap 3 0]) ++ [lrow l cap 4 (mostF cap)]
theorem lab4_len (l : List ByteArray) (cap : Int) : (lab4 l cap).length = 4 := rfl
theorem spec_Lab_l0_ev {k : Nat} (hk : 4294967306 ≤ k + 1) (l : List ByteArray) (hl : l.length ≤ 4194304) (cap : Int) (h1 : 1 ≤ cap) (h2 : cap ≤ 60) (m : Nat) (hm : 5 ≤ m) : spec_Lab_l0 k m l cap 1 [] = some (lab4 l cap) := by
  obtain ⟨m, rfl⟩ : ∃ j, m = j + 1 + 1 + 1 + 1 + 1 := ⟨m - 5, by omega⟩
  rw [spec_Lab_step hk l hl cap _ 1 2 (by omega) (by omega) (by omega) [] (by simp)]
  rw [spec_Lab_step hk l hl cap _ 2 3 (by omega) (by omega) (by omega) _ (by simp)]
  rw [spec_Lab_step hk l hl cap _ 3 4 (by omega) (by omega) (by omega) _ (by simp)]
  rw [spec_Lab_last hk l hl cap h1 h2 _ 4 5 rfl (by omega) _ (by simp)]
  rw [spec_Lab_end]
  rfl
theorem impl_Lab_l0_ev {k : Nat} (hk : 4294967306 ≤ k + 1) (l : List ByteArray) (hl : l.length ≤ 4194304) (cap : Int) (h1 : 1 ≤ cap) (h2 : cap ≤ 60) (m : Nat) (hm : 5 ≤ m) : impl_Lab_l0 k m l cap (missF l cap) 0 [] = some (lab4 l cap) := by
  obtain ⟨m, rfl⟩ : ∃ j, m = j + 1 + 1 + 1 + 1 + 1 := ⟨m - 5, by omega⟩
  rw [impl_Lab_step hk l hl cap h1 h2 _ 0 1 (1, cap, 0) (by omega) (by omega) (by omega) rfl [] (by simp)]
  rw [impl_Lab_step hk l hl cap h1 h2 _ 1 2 (2, cap, 0) (by omega) (by omega) (by omega) rfl _ (by simp)]
  rw [impl_Lab_step hk l hl cap h1 h2 _ 2 3 (3, cap, 0) (by omega) (by omega) (by omega) rfl _ (by simp)]
  rw [impl_Lab_step hk l hl cap h1 h2 _ 3 4 (4, cap, mostF cap) (by omega) (by omega) (by omega) rfl _ (by simp)]
  rw [impl_Lab_end]
  rfl
end Go.Proofs.Ytgnnljpdcafdkaa.Ev

/- The laws of Lab and Survey, over what the functions compute. -/
namespace Go.Proofs.Ytgnnljpdcafdkaa.Ev
open Go
set_option linter.unusedVariables false

theorem ok_split {l : List ByteArray} {cap : Int} {β : Type} (x y : β) :
    (if (!(aksF l && decide ((l.length : Int) ≤ 300))) = true then y else if (!(decide (1 ≤ cap) && decide (cap ≤ 60))) = true then y else x) = if labOk l cap = true then x else y := by
  unfold labOk
  cases (aksF l && decide ((l.length : Int) ≤ 300)) <;> cases (decide (1 ≤ cap) && decide (cap ≤ 60)) <;> rfl
def labF (l : List ByteArray) (cap : Int) : List LRow := if labOk l cap = true then lab4 l cap else []
theorem lab_len (l : List ByteArray) (cap : Int) : (labF l cap).length ≤ 4 := by
  unfold labF; split
  · rw [lab4_len]; omega
  · simp
theorem spec_Lab_ev {k : Nat} (hk : 4294967306 ≤ k) (l : List ByteArray) (cap : Int) (hl : l.length ≤ 4194304) : asO (List LRow) (evF cfg0 k 44 (l, cap)) = some (labF l cap) := by
  obtain ⟨k, rfl, hk'⟩ := exS hk
  have e1 := spec_l13Ok_ev (k := k) (by omega) l cap hl
  rw [spec_Lab_eq, e1]
  unfold labF
  by_cases h : labOk l cap = true
  · have hc := lab_cap h
    have e2 := spec_Lab_l0_ev hk l hl cap hc.1 hc.2 k (by omega)
    rw [if_pos h, h]
    simp only [Option.bind_some, Bool.not_true, Bool.false_eq_true, if_false]
    exact e2
  · rw [if_neg h]; simp only [Bool.not_eq_true] at h; rw [h]; rfl
theorem impl_Lab_ev {k : Nat} (hk : 4294967306 ≤ k) (l : List ByteArray) (cap : Int) (hl : l.length ≤ 4194304) : asO (List LRow) (evF cfg0 k 45 (l, cap)) = some (labF l cap) := by
  obtain ⟨k, rfl, hk'⟩ := exS hk
  have e1 := impl_AsksOk_ev (k := k) (by omega) l hl
  have e2 := impl_within_ev (k := k) (by omega) cap 1 60
  have e3 := impl_BestMisses_ev (k := k) (by omega) l cap hl
  rw [impl_Lab_eq, e1]
  simp only [Option.bind_some]
  rw [e2]
  simp only [Option.bind_some]
  rw [e3]
  simp only [Option.bind_some]
  rw [ok_split]
  unfold labF
  by_cases h : labOk l cap = true
  · have hc := lab_cap h
    rw [if_pos h, if_pos h]
    exact impl_Lab_l0_ev hk l hl cap hc.1 hc.2 k (by omega)
  · rw [if_neg h, if_neg h]

/-! ### the survey -/
def rowTxt : List LRow → ByteArray → ByteArray
  | [], t => t
  | r :: rs, t => rowTxt rs ((t ++ (⟨#[32]⟩ : ByteArray)) ++ numT r.2.1)
theorem one_size : (⟨#[32]⟩ : ByteArray).size = 1 := rfl
theorem rowTxt_size : ∀ (rs : List LRow) (t : ByteArray), (rowTxt rs t).size ≤ t.size + 12 * rs.length
  | [], t => by simp [rowTxt]
  | r :: rs, t => by
    unfold rowTxt
    have h := rowTxt_size rs ((t ++ (⟨#[32]⟩ : ByteArray)) ++ numT r.2.1)
    have h2 := numT_size r.2.1
    rw [ByteArray.size_append, ByteArray.size_append, one_size] at h
    simp only [List.length_cons]; omega
def lineF (l : List ByteArray) (c : Int) : ByteArray := (rowTxt (labF l c) (numT c) ++ (⟨#[32]⟩ : ByteArray)) ++ numT (missF l c)
def survG (l : List ByteArray) : Nat → Int → List ByteArray → List ByteArray
  | 0, _, acc => acc
  | n + 1, c, acc => survG l n (c + 1) (acc ++ [lineF l c])
theorem surv_len (l : List ByteArray) : ∀ (n : Nat) (c : Int) (acc : List ByteArray), (survG l n c acc).length = acc.length + n
  | 0, c, acc => rfl
  | n + 1, c, acc => by
    unfold survG
    rw [surv_len l n]
    simp only [List.length_append, List.length_cons, List.length_nil]; omega
theorem spec_Survey_l1_ev {k : Nat} (hk : 4294967339 ≤ k + 1) (l : List ByteArray) (cap : Int) (hl : l.length ≤ 4194304) (rs : List LRow) (hr : rs.length ≤ 4) (m0 : Nat) (c : Int) (hc0 : 0 ≤ c) (hc1 : c ≤ 60) (acc : List ByteArray) (ha : acc.length ≤ 100) : ∀ (m : Nat) (i : Int) (t : ByteArray), 0 ≤ i → i ≤ rs.length → rs.length < i + m → t.size ≤ 1000 + 12 * i →
    spec_Survey_l1 k m0 m l cap rs c acc t i = spec_Survey_l0 k m0 l cap (c + 1) (acc ++ [(rowTxt (rs.drop i.toNat) t ++ (⟨#[32]⟩ : ByteArray)) ++ numT (missF l c)]) := by
  intro m
  induction m with
  | zero => intro i t h0 h1 h2; omega
  | succ m ih =>
    intro i t h0 h1 h2 h3
    rw [spec_Survey_l1_eq]
    by_cases h : i < (rs.length : Int)
    · have w : IntKind.wrap .i64 (i + 1) = i + 1 := wrp (by omega) (by omega)
      have e := spec_NumText_ev (k := k) (by omega) (rs.getD i.toNat (Ty.dflt tLabRow)).2.1
      have s1 := numT_size (rs.getD i.toNat (Ty.dflt tLabRow)).2.1
      rw [dropC (d := Ty.dflt tLabRow) h0 h, e, w]
      simp only [ByteArray.size_append, one_size, rowTxt]
      simp (disch := (first | assumption | omega)) only [if_pos, if_neg, if_t, if_f, not_true_eq_false, not_false_eq_true, Bool.false_eq_true, Bool.true_eq_false, eq_self, decide_true, decide_false, Bool.not_true, Bool.not_false, decide_eq_true_eq, Option.bind_some, Bool.not_eq_true', decide_eq_false_iff_not, ]
      refine ih (i + 1) _ (by omega) (by omega) (by omega) ?_
      rw [ByteArray.size_append, ByteArray.size_append, one_size]; omega
    · have w : IntKind.wrap .i64 (c + 1) = c + 1 := wrp (by omega) (by omega)
      have e1 := spec_BestMisses_ev (k := k) (by omega) l c hl
      have e2 := spec_NumText_ev (k := k) (by omega) (missF l c)
      have s2 := numT_size (missF l c)
      rw [dropN h0 h, e1]
      simp only [ByteArray.size_append, one_size, rowTxt, app_len, Option.bind_some]
      rw [e2, w]
      simp (disch := (first | assumption | omega)) only [if_pos, if_neg, if_t, if_f, not_true_eq_false, not_false_eq_true, Bool.false_eq_true, Bool.true_eq_false, eq_self, decide_true, decide_false, Bool.not_true, Bool.not_false, decide_eq_true_eq, Option.bind_some, Bool.not_eq_true', decide_eq_false_iff_not, h, lim_3, lim_4, lim_9, lim_78, lim_121, lim_128, lim_137]
theorem spec_Survey_l0_ev {k : Nat} (hk : 4294967339 ≤ k + 1) (l : List ByteArray) (cap : Int) (hl : l.length ≤ 4194304) (hc1 : cap ≤ 60) : ∀ (m r : Nat) (c : Int) (acc : List ByteArray), 1 ≤ c → c + r = cap + 1 → r < m → acc.length + r ≤ 60 → spec_Survey_l0 k m l cap c acc = some (survG l r c acc) := by
  intro m
  induction m with
  | zero => intro r c acc h0 h1 h2; omega
  | succ m ih =>
    intro r c acc h0 h1 h2 h3
    rw [spec_Survey_l0_eq]
    cases r with
    | zero =>
      have n : ¬ c ≤ cap := by omega
      simp (disch := (first | assumption | omega)) only [if_pos, if_neg, if_t, if_f, not_true_eq_false, not_false_eq_true, Bool.false_eq_true, Bool.true_eq_false, eq_self, decide_true, decide_false, Bool.not_true, Bool.not_false, decide_eq_true_eq, Option.bind_some, Bool.not_eq_true', decide_eq_false_iff_not, n, survG]
    | succ r =>
      have y : c ≤ cap := by omega
      have e1 := spec_NumText_ev (k := k) (by omega) c
      have e2 := spec_Lab_ev (k := k) (by omega) l c hl
      have ll := lab_len l c
      have s1 := numT_size c
      have e3 := spec_Survey_l1_ev hk l cap hl (labF l c) ll m c (by omega) (by omega) acc (by omega) k 0 (numT c) (by omega) (by omega) (by omega) (by omega)
      rw [e1]
      simp only [Option.bind_some]
      rw [e2]
      simp only [Option.bind_some, decide_eq_true_eq]
      rw [if_pos y, e3]
      simp only [survG, Int.toNat_zero, List.drop_zero]
      exact ih r (c + 1) _ (by omega) (by omega) (by omega) (by simp only [List.length_append, List.length_cons, List.length_nil]; omega)
theorem impl_Survey_l1_ev {k : Nat} (hk : 4294967307 ≤ k + 1) (l : List ByteArray) (cap : Int) (hl : l.length ≤ 4194304) (rs : List LRow) (hr : rs.length ≤ 4) (m0 : Nat) (c : Int) (hc0 : 0 ≤ c) (hc1 : c ≤ 60) (acc : List ByteArray) (ha : acc.length ≤ 100) : ∀ (m : Nat) (i : Int) (t : ByteArray), 0 ≤ i → i ≤ rs.length → rs.length < i + m → t.size ≤ 1000 + 12 * i →
    impl_Survey_l1 k m0 m l cap rs c acc t i = impl_Survey_l0 k m0 l cap (c + 1) (acc ++ [(rowTxt (rs.drop i.toNat) t ++ (⟨#[32]⟩ : ByteArray)) ++ numT (missF l c)]) := by
  intro m
  induction m with
  | zero => intro i t h0 h1 h2; omega
  | succ m ih =>
    intro i t h0 h1 h2 h3
    rw [impl_Survey_l1_eq]
    by_cases h : i < (rs.length : Int)
    · have w : IntKind.wrap .i64 (i + 1) = i + 1 := wrp (by omega) (by omega)
      have e := impl_NumText_ev (k := k) (by omega) (rs.getD i.toNat (Ty.dflt tLabRow)).2.1
      have s1 := numT_size (rs.getD i.toNat (Ty.dflt tLabRow)).2.1
      rw [dropC (d := Ty.dflt tLabRow) h0 h, e, w]
      simp only [ByteArray.size_append, one_size, rowTxt]
      simp (disch := (first | assumption | omega)) only [if_pos, if_neg, if_t, if_f, not_true_eq_false, not_false_eq_true, Bool.false_eq_true, Bool.true_eq_false, eq_self, decide_true, decide_false, Bool.not_true, Bool.not_false, decide_eq_true_eq, Option.bind_some, Bool.not_eq_true', decide_eq_false_iff_not, ]
      refine ih (i + 1) _ (by omega) (by omega) (by omega) ?_
      rw [ByteArray.size_append, ByteArray.size_append, one_size]; omega
    · have w : IntKind.wrap .i64 (c + 1) = c + 1 := wrp (by omega) (by omega)
      have e1 := impl_BestMisses_ev (k := k) (by omega) l c hl
      have e2 := impl_NumText_ev (k := k) (by omega) (missF l c)
      have s2 := numT_size (missF l c)
      rw [dropN h0 h, e1]
      simp only [ByteArray.size_append, one_size, rowTxt, app_len, Option.bind_some]
      rw [e2, w]
      simp (disch := (first | assumption | omega)) only [if_pos, if_neg, if_t, if_f, not_true_eq_false, not_false_eq_true, Bool.false_eq_true, Bool.true_eq_false, eq_self, decide_true, decide_false, Bool.not_true, Bool.not_false, decide_eq_true_eq, Option.bind_some, Bool.not_eq_true', decide_eq_false_iff_not, h, lim_3, lim_4, lim_9, lim_78, lim_121, lim_128, lim_137]
theorem impl_Survey_l0_ev {k : Nat} (hk : 4294967307 ≤ k + 1) (l : List ByteArray) (cap : Int) (hl : l.length ≤ 4194304) (hc1 : cap ≤ 60) : ∀ (m r : Nat) (c : Int) (acc : List ByteArray), 1 ≤ c → c + r = cap + 1 → r < m → acc.length + r ≤ 60 → impl_Survey_l0 k m l cap c acc = some (survG l r c acc) := by
  intro m
  induction m with
  | zero => intro r c acc h0 h1 h2; omega
  | succ m ih =>
    intro r c acc h0 h1 h2 h3
    rw [impl_Survey_l0_eq]
    cases r with
    | zero =>
      have n : ¬ c ≤ cap := by omega
      simp (disch := (first | assumption | omega)) only [if_pos, if_neg, if_t, if_f, not_true_eq_false, not_false_eq_true, Bool.false_eq_true, Bool.true_eq_false, eq_self, decide_true, decide_false, Bool.not_true, Bool.not_false, decide_eq_true_eq, Option.bind_some, Bool.not_eq_true', decide_eq_false_iff_not, n, survG]
    | succ r =>
      have y : c ≤ cap := by omega
      have e1 := impl_NumText_ev (k := k) (by omega) c
      have e2 := impl_Lab_ev (k := k) (by omega) l c hl
      have ll := lab_len l c
      have s1 := numT_size c
      have e3 := impl_Survey_l1_ev hk l cap hl (labF l c) ll m c (by omega) (by omega) acc (by omega) k 0 (numT c) (by omega) (by omega) (by omega) (by omega)
      rw [e1]
      simp only [Option.bind_some]
      rw [e2]
      simp only [Option.bind_some, decide_eq_true_eq]
      rw [if_pos y, e3]
      simp only [survG, Int.toNat_zero, List.drop_zero]
      exact ih r (c + 1) _ (by omega) (by omega) (by omega) (by simp only [List.length_append, List.length_cons, List.length_nil]; omega)
def survF (l : List ByteArray) (cap : Int) : List ByteArray := if labOk l cap = true then survG l cap.toNat 1 [] else []
theorem survF_len (l : List ByteArray) (cap : Int) : (survF l cap).length ≤ 60 := by
  unfold survF; split
  · next h => have hc := lab_cap h; rw [surv_len]; simp only [List.length_nil]; omega
  · simp
theorem spec_Survey_ev {k : Nat} (hk : 4294967339 ≤ k) (l : List ByteArray) (cap : Int) (hl : l.length ≤ 4194304) : asO (List ByteArray) (evF cfg0 k 42 (l, cap)) = some (survF l cap) := by
  obtain ⟨k, rfl, hk'⟩ := exS hk
  have e1 := spec_l13Ok_ev (k := k) (by omega) l cap hl
  rw [spec_Survey_eq, e1]
  unfold survF
  by_cases h : labOk l cap = true
  · have hc := lab_cap h
    rw [if_pos h, h]
    simp only [Option.bind_some, Bool.not_true, Bool.false_eq_true, if_false]
    exact spec_Survey_l0_ev hk l cap hl hc.2 k cap.toNat 1 [] (by omega) (by omega) (by omega) (by simp only [List.length_nil]; omega)
  · rw [if_neg h]; simp only [Bool.not_eq_true] at h; rw [h]; rfl
theorem impl_Survey_ev {k : Nat} (hk : 4294967307 ≤ k) (l : List ByteArray) (cap : Int) (hl : l.length ≤ 4194304) : asO (List ByteArray) (evF cfg0 k 43 (l, cap)) = some (survF l cap) := by
  obtain ⟨k, rfl, hk'⟩ := exS hk
  have e1 := impl_AsksOk_ev (k := k) (by omega) l hl
  have e2 := impl_within_ev (k := k) (by omega) cap 1 60
  rw [impl_Survey_eq, e1]
  simp only [Option.bind_some]
  rw [e2]
  simp only [Option.bind_some]
  rw [ok_split]
  unfold survF
  by_cases h : labOk l cap = true
  · have hc := lab_cap h
    rw [if_pos h, if_pos h]
    exact impl_Survey_l0_ev hk l cap hl hc.2 k cap.toNat 1 [] (by omega) (by omega) (by omega) (by simp only [List.length_nil]; omega)
  · rw [if_neg h, if_neg h]

/-! ### the helpers for rows of the laboratory -/
def mkLabRow (n : Int) : LRow := ((n, n + 1, n + 1 + 1), n + 1 + 1 + 1, n + 1 + 1 + 1 + 1)
theorem laws_markLabRowS_ev {k : Nat} (hk : 4294967297 + 1 ≤ k) (l : List LRow) (n : Int) (hl : l.length ≤ 4194304) (h0 : 0 ≤ n) (h1 : n ≤ 1000000000) :
    asO (Int × List LRow) (evF cfg0 k 47 (l, n)) = some (n + ((5 : Nat) : Int) * l.length, mkL mkLabRow ((5 : Nat) : Int) n l.length) := by
  obtain ⟨k, rfl, hk'⟩ := exS hk
  rw [laws_markLabRowS_eq]
  have key := mark_gen (L := fun m n i y => laws_markLabRowS_l0 k m n i y) (mk := mkLabRow) 5 (by omega)
    (by
      intro m n i y h
      show laws_markLabRowS_l0 k (m + 1) n i y = _
      rw [laws_markLabRowS_l0_eq]; simp (disch := (first | assumption | omega)) only [if_pos, if_neg, if_t, if_f, not_true_eq_false, not_false_eq_true, Bool.false_eq_true, Bool.true_eq_false, eq_self, decide_true, decide_false, Bool.not_true, Bool.not_false, decide_eq_true_eq, Option.bind_some, Bool.not_eq_true', decide_eq_false_iff_not, h])
    (by
      intro m n i y h0 h1 h2 h3 h4
      show laws_markLabRowS_l0 k (m + 1) n i y = laws_markLabRowS_l0 k m (n + ((5 : Nat) : Int)) (i + 1) (y.set i.toNat (mkLabRow n))
      have e : n + ((5 : Nat) : Int) = n + 1 + 1 + 1 + 1 + 1 := by omega
      rw [e, laws_markLabRowS_l0_eq]
      have w1 : IntKind.wrap .i64 (n + 1) = n + 1 := wrp (by omega) (by omega)
      have w2 : IntKind.wrap .i64 (n + 1 + 1) = n + 1 + 1 := wrp (by omega) (by omega)
      have w3 : IntKind.wrap .i64 (n + 1 + 1 + 1) = n + 1 + 1 + 1 := wrp (by omega) (by omega)
      have w4 : IntKind.wrap .i64 (n + 1 + 1 + 1 + 1) = n + 1 + 1 + 1 + 1 := wrp (by omega) (by omega)
      have w5 : IntKind.wrap .i64 (n + 1 + 1 + 1 + 1 + 1) = n + 1 + 1 + 1 + 1 + 1 := wrp (by omega) (by omega)
      have wi : IntKind.wrap .i64 (i + 1) = i + 1 := wrp (by omega) (by omega)
      simp (disch := (first | assumption | omega)) only [if_pos, if_neg, if_t, if_f, not_true_eq_false, not_false_eq_true, Bool.false_eq_true, Bool.true_eq_false, eq_self, decide_true, decide_false, Bool.not_true, Bool.not_false, decide_eq_true_eq, Option.bind_some, Bool.not_eq_true', decide_eq_false_iff_not, w1, w2, w3, w4, w5, wi, List.length_set, List.set_set, getDs, mkLabRow])
    k n 0 l l.length (by omega) (by omega) hl (by omega) h0 (by omega)
  simpa using key
theorem laws_heldLabRowS_ev {k : Nat} (hk : 4294967297 + 1 ≤ k) (n : Int) (j : Nat) (hl : j ≤ 4194304) (h0 : 0 ≤ n) (h1 : n ≤ 1000000000) :
    asO Int (evF cfg0 k 48 (mkL mkLabRow ((5 : Nat) : Int) n j, n)) = some (n + ((5 : Nat) : Int) * j) := by
  obtain ⟨k, rfl, hk'⟩ := exS hk
  rw [laws_heldLabRowS_eq]
  have hlen := mkL_len mkLabRow ((5 : Nat) : Int) j n
  generalize hml : mkL mkLabRow ((5 : Nat) : Int) n j = l at hlen
  refine held_gen (H := fun m n i => laws_heldLabRowS_l0 k m l n i) (mk := mkLabRow) (l := l) (df := Ty.dflt tLabRow) 5 (by omega) (by omega)
    (by
      intro m n i h
      show laws_heldLabRowS_l0 k (m + 1) l n i = _
      rw [laws_heldLabRowS_l0_eq]; simp (disch := (first | assumption | omega)) only [if_pos, if_neg, if_t, if_f, not_true_eq_false, not_false_eq_true, Bool.false_eq_true, Bool.true_eq_false, eq_self, decide_true, decide_false, Bool.not_true, Bool.not_false, decide_eq_true_eq, Option.bind_some, Bool.not_eq_true', decide_eq_false_iff_not, h])
    (by
      intro m n i h0 h1 h3 h4 hq
      show laws_heldLabRowS_l0 k (m + 1) l n i = laws_heldLabRowS_l0 k m l (n + ((5 : Nat) : Int)) (i + 1)
      have e : n + ((5 : Nat) : Int) = n + 1 + 1 + 1 + 1 + 1 := by omega
      rw [e, laws_heldLabRowS_l0_eq, hq]
      have w1 : IntKind.wrap .i64 (n + 1) = n + 1 := wrp (by omega) (by omega)
      have w2 : IntKind.wrap .i64 (n + 1 + 1) = n + 1 + 1 := wrp (by omega) (by omega)
      have w3 : IntKind.wrap .i64 (n + 1 + 1 + 1) = n + 1 + 1 + 1 := wrp (by omega) (by omega)
      have w4 : IntKind.wrap .i64 (n + 1 + 1 + 1 + 1) = n + 1 + 1 + 1 + 1 := wrp (by omega) (by omega)
      have w5 : IntKind.wrap .i64 (n + 1 + 1 + 1 + 1 + 1) = n + 1 + 1 + 1 + 1 + 1 := wrp (by omega) (by omega)
      have wi : IntKind.wrap .i64 (i + 1) = i + 1 := wrp (by omega) (by omega)
      simp (disch := (first | assumption | omega)) only [if_pos, if_neg, if_t, if_f, not_true_eq_false, not_false_eq_true, Bool.false_eq_true, Bool.true_eq_false, eq_self, decide_true, decide_false, Bool.not_true, Bool.not_false, decide_eq_true_eq, Option.bind_some, Bool.not_eq_true', decide_eq_false_iff_not, w1, w2, w3, w4, w5, wi, mkLabRow])
    k n 0 j (by omega) (by omega) (by omega) h0 (by omega) (by rw [← hml]; simp)
theorem laws_eqSetup_ev {k : Nat} (hk : 4294967297 ≤ k) (x : Stp) : asO Bool (evF cfg0 k 168 (x, x)) = some true := by
  obtain ⟨k, rfl, hk⟩ := exS hk
  obtain ⟨a, b, c⟩ := x
  rw [laws_eqSetup_eq]
  simp (disch := (first | assumption | omega)) only [if_pos, if_neg, if_t, if_f, not_true_eq_false, not_false_eq_true, Bool.false_eq_true, Bool.true_eq_false, eq_self, decide_true, decide_false, Bool.not_true, Bool.not_false, decide_eq_true_eq, Option.bind_some, Bool.not_eq_true', decide_eq_false_iff_not, ]
theorem laws_eqLabRow_ev {k : Nat} (hk : 4294967298 ≤ k) (x : LRow) : asO Bool (evF cfg0 k 109 (x, x)) = some true := by
  obtain ⟨k, rfl, hk⟩ := exS hk
  obtain ⟨⟨a, b, c⟩, d, e⟩ := x
  rw [laws_eqLabRow_eq, laws_eqSetup_ev (by omega) (a, b, c)]
  simp (disch := (first | assumption | omega)) only [if_pos, if_neg, if_t, if_f, not_true_eq_false, not_false_eq_true, Bool.false_eq_true, Bool.true_eq_false, eq_self, decide_true, decide_false, Bool.not_true, Bool.not_false, decide_eq_true_eq, Option.bind_some, Bool.not_eq_true', decide_eq_false_iff_not, ]
theorem laws_eqLabRowS_ev {k : Nat} (hk : 4294967299 ≤ k) (l : List LRow) (hl : l.length ≤ 4194304) : asO Bool (evF cfg0 k 46 (l, l)) = some true := by
  obtain ⟨k, rfl, hk'⟩ := exS hk
  rw [laws_eqLabRowS_eq]
  have key := eq_gen (E := fun m i => laws_eqLabRowS_l0 k m l l i) (len := l.length) hl
    (by
      intro m i h
      show laws_eqLabRowS_l0 k (m + 1) l l i = _
      rw [laws_eqLabRowS_l0_eq]; simp (disch := (first | assumption | omega)) only [if_pos, if_neg, if_t, if_f, not_true_eq_false, not_false_eq_true, Bool.false_eq_true, Bool.true_eq_false, eq_self, decide_true, decide_false, Bool.not_true, Bool.not_false, decide_eq_true_eq, Option.bind_some, Bool.not_eq_true', decide_eq_false_iff_not, h])
    (by
      intro m i h0 h1
      show laws_eqLabRowS_l0 k (m + 1) l l i = laws_eqLabRowS_l0 k m l l (i + 1)
      rw [laws_eqLabRowS_l0_eq, laws_eqLabRow_ev (by omega)]
      simp (disch := (first | assumption | omega)) only [if_pos, if_neg, if_t, if_f, not_true_eq_false, not_false_eq_true, Bool.false_eq_true, Bool.true_eq_false, eq_self, decide_true, decide_false, Bool.not_true, Bool.not_false, decide_eq_true_eq, Option.bind_some, Bool.not_eq_true', decide_eq_false_iff_not, wrp])
    k 0 (by omega) (by omega) (by omega)
  simp (disch := (first | assumption | omega)) only [if_pos, if_neg, if_t, if_f, not_true_eq_false, not_false_eq_true, Bool.false_eq_true, Bool.true_eq_false, eq_self, decide_true, decide_false, Bool.not_true, Bool.not_false, decide_eq_true_eq, Option.bind_some, Bool.not_eq_true', decide_eq_false_iff_not, ]
  exact key

theorem law_Survey {k : Nat} (hk : 4294967496 ≤ k) (l : List ByteArray) (c : Int) (hl : l.length ≤ 1048576) (b : ∀ x ∈ l, x.size ≤ 1048576) : asO Bool (evF cfg0 (k + 1) 8 (l, c)) = some true := by
  obtain ⟨r1, e1, p1, q1⟩ := laws_szStringS_ev (k := k) (by omega) l 1048576 (by omega) (by omega) (by omega) b
  have e3 := laws_toStringS_ev (k := k) (by omega) l (by omega)
  have e4 := spec_Survey_ev (k := k) (by omega) l c (by omega)
  have e5 := impl_Survey_ev (k := k) (by omega) l c (by omega)
  have wl : (survF l c).length ≤ 4194304 := Nat.le_trans (survF_len l c) (by omega)
  have e6 := laws_eqStringS_ev (k := k) (by omega) (survF l c) wl
  have e7 := laws_eqStringS_ev (k := k) (by omega) l (by omega)
  have e8 := laws_markStringS_ev (k := k) (by omega) l 1 (by omega) (by omega) (by omega)
  have e9 := laws_markStringS_ev (k := k) (by omega) (survF l c) 1 wl (by omega) (by omega)
  have e10 := laws_heldStringS_ev (k := k) (by omega) 1 (survF l c).length wl (by omega) (by omega)
  have n1 : ¬ 1 + ((1 : Nat) : Int) * l.length < 0 := by omega
  have n2 : ¬ 1 + ((1 : Nat) : Int) * (survF l c).length < 0 := by omega
  rw [laws_FnExactSurvey_eq, e1]
  simp only [Option.bind_some, decide_eq_true_eq]
  by_cases h1 : r1 < 0
  · rw [if_pos h1]
  · rw [if_neg h1, e3]
    simp only [Option.bind_some]
    rw [e4, e5]
    simp only [Option.bind_some]
    rw [e6, e7]
    simp only [Option.bind_some, Bool.not_true, Bool.false_eq_true, if_false]
    rw [e8]
    simp only [Option.bind_some]
    rw [if_neg n1, e9]
    simp only [Option.bind_some]
    rw [e10]
    simp only [Option.bind_some]
    rw [if_neg n2]
    simp (disch := (first | assumption | omega)) only [if_pos, if_neg, if_t, if_f, not_true_eq_false, not_false_eq_true, Bool.false_eq_true, Bool.true_eq_false, eq_self, decide_true, decide_false, Bool.not_true, Bool.not_false, decide_eq_true_eq, Option.bind_some, Bool.not_eq_true', decide_eq_false_iff_not, n1, n2]
theorem plSurvey (x : Ty.D ((.slice 9 .str))) (y : Ty.D ((.int .i64))) (hx : InT _ x) (hy : InT _ y) (hb : bulkT _ x + bulkT _ y ≤ 1048576) : ∃ k, evF cfg0 k 8 (x, y) = some true := by
  obtain ⟨z, hz⟩ : ∃ z, 4294967496 ≤ z := ⟨_, Nat.le_refl _⟩
  refine ⟨z + 1, ?_⟩
  have hb' : sumB (fun x : ByteArray => x.size) x + bulkT _ y ≤ 1048576 := hb
  have b4 := sumB_le (fun x : ByteArray => x.size) x
  have h : asO Bool (evF cfg0 (z + 1) 8 ((x : List ByteArray), (y : Int))) = some true := by
    refine law_Survey hz x y ?_ ?_
    · exact Nat.le_trans b4.1 (by omega)
    · intro x hx; have := b4.2 x hx; omega
  exact asO_true h
theorem law_Lab {k : Nat} (hk : 4294967496 ≤ k) (l : List ByteArray) (c : Int) (hl : l.length ≤ 1048576) (b : ∀ x ∈ l, x.size ≤ 1048576) : asO Bool (evF cfg0 (k + 1) 9 (l, c)) = some true := by
  obtain ⟨r1, e1, p1, q1⟩ := laws_szStringS_ev (k := k) (by omega) l 1048576 (by omega) (by omega) (by omega) b
  have e3 := laws_toStringS_ev (k := k) (by omega) l (by omega)
  have e4 := spec_Lab_ev (k := k) (by omega) l c (by omega)
  have e5 := impl_Lab_ev (k := k) (by omega) l c (by omega)
  have wl : (labF l c).length ≤ 4194304 := Nat.le_trans (lab_len l c) (by omega)
  have e6 := laws_eqLabRowS_ev (k := k) (by omega) (labF l c) wl
  have e7 := laws_eqStringS_ev (k := k) (by omega) l (by omega)
  have e8 := laws_markStringS_ev (k := k) (by omega) l 1 (by omega) (by omega) (by omega)
  have e9 := laws_markLabRowS_ev (k := k) (by omega) (labF l c) 1 wl (by omega) (by omega)
  have e10 := laws_heldLabRowS_ev (k := k) (by omega) 1 (labF l c).length wl (by omega) (by omega)
  have n1 : ¬ 1 + ((1 : Nat) : Int) * l.length < 0 := by omega
  have n2 : ¬ 1 + ((5 : Nat) : Int) * (labF l c).length < 0 := by omega
  rw [laws_FnExactLab_eq, e1]
  simp only [Option.bind_some, decide_eq_true_eq]
  by_cases h1 : r1 < 0
  · rw [if_pos h1]
  · rw [if_neg h1, e3]
    simp only [Option.bind_some]
    rw [e4, e5]
    simp only [Option.bind_some]
    rw [e6, e7]
    simp only [Option.bind_some, Bool.not_true, Bool.false_eq_true, if_false]
    rw [e8]
    simp only [Option.bind_some]
    rw [if_neg n1, e9]
    simp only [Option.bind_some]
    rw [e10]
    simp only [Option.bind_some]
    rw [if_neg n2]
    simp (disch := (first | assumption | omega)) only [if_pos, if_neg, if_t, if_f, not_true_eq_false, not_false_eq_true, Bool.false_eq_true, Bool.true_eq_false, eq_self, decide_true, decide_false, Bool.not_true, Bool.not_false, decide_eq_true_eq, Option.bind_some, Bool.not_eq_true', decide_eq_false_iff_not, n1, n2]
theorem plLab (x : Ty.D ((.slice 9 .str))) (y : Ty.D ((.int .i64))) (hx : InT _ x) (hy : InT _ y) (hb : bulkT _ x + bulkT _ y ≤ 1048576) : ∃ k, evF cfg0 k 9 (x, y) = some true := by
  obtain ⟨z, hz⟩ : ∃ z, 4294967496 ≤ z := ⟨_, Nat.le_refl _⟩
  refine ⟨z + 1, ?_⟩
  have hb' : sumB (fun x : ByteArray => x.size) x + bulkT _ y ≤ 1048576 := hb
  have b4 := sumB_le (fun x : ByteArray => x.size) x
  have h : asO Bool (evF cfg0 (z + 1) 9 ((x : List ByteArray), (y : Int))) = some true := by
    refine law_Lab hz x y ?_ ?_
    · exact Nat.le_trans b4.1 (by omega)
    · intro x hx; have := b4.2 x hx; omega
  exact asO_true h
end Go.Proofs.Ytgnnljpdcafdkaa.Ev

/- From a call's contract to the law's own statement: arguments as data. -/
namespace Go.Proofs.Ytgnnljpdcafdkaa.Ev
open Go
open Go.WideShapes Go.RowKit

def noFr : Frn := fun _ _ _ _ => False

theorem bulk_le {H : Type} {l : List (DataW H)} (hk : Rows.uptoSmall H l = true) : Rows.uptoBulkAll l ≤ 1048576 := of_decide_eq_true hk

section
variable {H : Type} {enc : TypeId × Value → H} {P : Program} {tt : TT} {W : World}

theorem arg_rd (ok : TTok P tt) (hc : ∀ T t, tt.shape T = some t → chkT P tt T t = true) {T : TypeId} {t : Ty} (hs : tt.shape T = some t) (hp' : (tt.shape T).map plainT = some true) {base : Nat} {v : Value} {d : DataW H} {ps : List MemPlace} (hval : Value.okWide P W .any base T v) (hd : DataW.Trod enc P W 0 (fun _ => true) true T v d ps) :
    ∃ x : t.D, (∃ cs, ValC t v cs ∧ RdC noFr (okB W []) W t x cs) ∧ InT t x ∧ bulkT t x + 1 ≤ Rows.uptoBulk d := by
  have hp : plainT t = true := by rw [hs] at hp'; simpa using hp'
  obtain ⟨fuel, hf⟩ := hd
  obtain ⟨x, h1, h2, h3⟩ := trod_rd (Fr := noFr) ok hc fuel hs hp hf
  refine ⟨x, ⟨v.cells.toList, ?_, h1.mono (fun b hb => ⟨hb, by simp⟩) fun _ _ => rfl⟩, h2, h3⟩
  have hck := hc T t hs
  unfold ValC
  rcases chk_no hck with ⟨k, rfl⟩ | rfl | rfl | ⟨e, t', rfl⟩ | ⟨t', rfl⟩
  · obtain ⟨n, rfl⟩ := okWide_int (chk_int hck) hval
    rfl
  · obtain ⟨n, rfl⟩ := okWide_bool (chk_bool hck) hval
    rfl
  · obtain ⟨n, rfl⟩ := okWide_string (chk_str hck) hval
    rfl
  · obtain ⟨a, l, c, rfl⟩ := okWide_slice (chk_slice hck).1 hval
    rfl
  · obtain ⟨fs, hu, _⟩ := chk_st hck
    simp only [Value.okWide, hu] at hval
    obtain ⟨cs, rfl, _⟩ := hval
    simp [Ty.isAgg, Value.cells]

theorem keeps_below {w w' : World} (h : Keeps (· ∈ ([] : List Nat)) w w') : Below w.heap.size w w' := ⟨h.os, h.tape, h.output, h.size, fun k hk => h.block k hk (by simp)⟩
theorem noFr_at (ok : Nat → Prop) (w : World) : FrAt noFr ok w := fun _ _ _ _ h => h.elim

theorem ret_true {w' : World} {vs : List Value} {r : List Nat} (h : ResV noFr w' [.bool] true vs r) : retOf vs = .bool true := by
  obtain ⟨u, cs, rfl, h1, h2⟩ := h
  obtain ⟨rfl, _⟩ := h2
  have : [Value.bool true] = [u] := h1
  simp at this
  rw [← this]; rfl

theorem walk1 {n : FuncId} {a : Ty} {x : a.D} (h : CallOk P ⟨[.val a], [.bool]⟩ n x true) {v0 : Value} (h0 : ∃ cs, ValC a v0 cs ∧ RdC noFr (okB W []) W a x cs) :
    Calls P n #[v0] W fun e W' => e = .returned (.bool true) ∧ Below W.heap.size W W' := by
  obtain ⟨cs, k1, k2⟩ := h0
  refine (h.2 W noFr [v0] [] [] (noFr_at _ _) ⟨v0, rfl, rfl, rfl, cs, k1, k2⟩ List.nodup_nil).mono ?_
  rintro e w' ⟨vs, r1, r2, rfl, hk, hres, _⟩
  exact ⟨by rw [ret_true hres], keeps_below hk⟩
theorem walk2 {n : FuncId} {a b : Ty} {x : a.D} {y : b.D} (h : CallOk P ⟨[.val a, .val b], [.bool]⟩ n (x, y) true) {v0 v1 : Value} (h0 : ∃ cs, ValC a v0 cs ∧ RdC noFr (okB W []) W a x cs) (h1 : ∃ cs, ValC b v1 cs ∧ RdC noFr (okB W []) W b y cs) :
    Calls P n #[v0, v1] W fun e W' => e = .returned (.bool true) ∧ Below W.heap.size W W' := by
  obtain ⟨cs, k1, k2⟩ := h0
  obtain ⟨cs', k3, k4⟩ := h1
  refine (h.2 W noFr [v0, v1] [] [] (noFr_at _ _) ⟨v0, [v1], [], [], [], [], rfl, rfl, rfl, ⟨rfl, rfl, cs, k1, k2⟩, v1, rfl, rfl, rfl, cs', k3, k4⟩ List.nodup_nil).mono ?_
  rintro e w' ⟨vs, r1, r2, rfl, hk, hres, _⟩
  exact ⟨by rw [ret_true hres], keeps_below hk⟩
theorem walk3 {n : FuncId} {a b c : Ty} {x : a.D} {y : b.D} {z : c.D} (h : CallOk P ⟨[.val a, .val b, .val c], [.bool]⟩ n (x, y, z) true) {v0 v1 v2 : Value} (h0 : ∃ cs, ValC a v0 cs ∧ RdC noFr (okB W []) W a x cs) (h1 : ∃ cs, ValC b v1 cs ∧ RdC noFr (okB W []) W b y cs) (h2 : ∃ cs, ValC c v2 cs ∧ RdC noFr (okB W []) W c z cs) :
    Calls P n #[v0, v1, v2] W fun e W' => e = .returned (.bool true) ∧ Below W.heap.size W W' := by
  obtain ⟨cs, k1, k2⟩ := h0
  obtain ⟨cs', k3, k4⟩ := h1
  obtain ⟨cs2, k5, k6⟩ := h2
  refine (h.2 W noFr [v0, v1, v2] [] [] (noFr_at _ _) ⟨v0, [v1, v2], [], [], [], [], rfl, rfl, rfl, ⟨rfl, rfl, cs, k1, k2⟩, v1, [v2], [], [], [], [], rfl, rfl, rfl, ⟨rfl, rfl, cs', k3, k4⟩, v2, rfl, rfl, rfl, cs2, k5, k6⟩ List.nodup_nil).mono ?_
  rintro e w' ⟨vs, r1, r2, rfl, hk, hres, _⟩
  exact ⟨by rw [ret_true hres], keeps_below hk⟩
end
end Go.Proofs.Ytgnnljpdcafdkaa.Ev
