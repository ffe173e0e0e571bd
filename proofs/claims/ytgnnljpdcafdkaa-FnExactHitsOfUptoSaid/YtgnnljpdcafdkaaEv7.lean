/- A part of a proof: an evaluator of the program's functions over plain values, and what it shows. -/
import Derived.Test.YtgnnljpdcafdkaaEv6
import Derived.Test.YtgnnljpdcafdkaaEv5
import Derived.WideShapes
set_option linter.unusedVariables false
set_option linter.unusedSimpArgs false
set_option linter.unusedSectionVars false
/- The laws of HitsOf and Holds, over what the functions compute. -/
namespace Go.Proofs.Ytgnnljpdcafdkaa.Ev
open Go
set_option linter.unusedVariables false

def rkeysF (r : RowT) : List ByteArray := if rowOk r = true then r.2.2.map (fun x => x.1) else []
theorem spec_RowKeys_l0_ev {k : Nat} (l : List Itm) (hl : l.length ≤ 4194304) : ∀ (m : Nat) (i : Int) (acc : List ByteArray), 0 ≤ i → i ≤ l.length → l.length < i + m → acc.length ≤ i → spec_RowKeys_l0 k m l i acc = some (acc ++ (l.drop i.toNat).map (fun x => x.1)) := by
  intro m
  induction m with
  | zero => intro i acc h0 h1 h2; omega
  | succ m ih =>
    intro i acc h0 h1 h2 h3
    rw [spec_RowKeys_l0_eq]
    by_cases h : i < (l.length : Int)
    · rw [dropC (d := Ty.dflt tItem) h0 h]
      simp only [app_len]
      simp (disch := (first | assumption | omega)) only [if_pos, if_neg, if_t, if_f, not_true_eq_false, not_false_eq_true, Bool.false_eq_true, Bool.true_eq_false, eq_self, decide_true, decide_false, Bool.not_true, Bool.not_false, decide_eq_true_eq, Option.bind_some, Bool.not_eq_true', decide_eq_false_iff_not, wrp, lim_3, lim_4, lim_9, lim_78, lim_121, lim_128, lim_137]
      rw [ih (i + 1) _ (by omega) (by omega) (by omega) (by simp only [List.length_append, List.length_cons, List.length_nil]; omega)]
      simp
    · rw [dropN h0 h]
      simp (disch := (first | assumption | omega)) only [if_pos, if_neg, if_t, if_f, not_true_eq_false, not_false_eq_true, Bool.false_eq_true, Bool.true_eq_false, eq_self, decide_true, decide_false, Bool.not_true, Bool.not_false, decide_eq_true_eq, Option.bind_some, Bool.not_eq_true', decide_eq_false_iff_not, h]; simp
theorem spec_RowKeys_ev {k : Nat} (hk : 4294967300 ≤ k) (r : RowT) (hl : r.2.2.length ≤ 4194304) : asO (List ByteArray) (evF cfg0 k 87 r) = some (rkeysF r) := by
  obtain ⟨k, rfl, hk'⟩ := exS hk
  have e1 := spec_RowOk_ev (k := k) (by omega) r hl
  have e2 := spec_RowKeys_l0_ev (k := k) r.2.2 hl k 0 [] (by omega) (by omega) (by omega) (by simp)
  unfold rkeysF
  obtain ⟨c, m, l⟩ := r
  simp only at hl
  rw [spec_RowKeys_eq, e1]
  simp only [Option.bind_some]
  by_cases h : rowOk (c, m, l) = true
  · rw [h, if_pos rfl]
    simp only [Bool.not_true, Bool.false_eq_true, if_false]
    simpa using e2
  · rw [if_neg h, if_pos (by simpa using h)]
theorem impl_RowKeys_l0_ev {k : Nat} (l : List Itm) (hl : l.length ≤ 4194304) : ∀ (m : Nat) (i : Int) (acc : List ByteArray), 0 ≤ i → i ≤ l.length → l.length < i + m → acc.length ≤ i → impl_RowKeys_l0 k m l i acc = some (acc ++ (l.drop i.toNat).map (fun x => x.1)) := by
  intro m
  induction m with
  | zero => intro i acc h0 h1 h2; omega
  | succ m ih =>
    intro i acc h0 h1 h2 h3
    rw [impl_RowKeys_l0_eq]
    by_cases h : i < (l.length : Int)
    · rw [dropC (d := Ty.dflt tItem) h0 h]
      simp only [app_len]
      simp (disch := (first | assumption | omega)) only [if_pos, if_neg, if_t, if_f, not_true_eq_false, not_false_eq_true, Bool.false_eq_true, Bool.true_eq_false, eq_self, decide_true, decide_false, Bool.not_true, Bool.not_false, decide_eq_true_eq, Option.bind_some, Bool.not_eq_true', decide_eq_false_iff_not, wrp, lim_3, lim_4, lim_9, lim_78, lim_121, lim_128, lim_137]
      rw [ih (i + 1) _ (by omega) (by omega) (by omega) (by simp only [List.length_append, List.length_cons, List.length_nil]; omega)]
      simp
    · rw [dropN h0 h]
      simp (disch := (first | assumption | omega)) only [if_pos, if_neg, if_t, if_f, not_true_eq_false, not_false_eq_true, Bool.false_eq_true, Bool.true_eq_false, eq_self, decide_true, decide_false, Bool.not_true, Bool.not_false, decide_eq_true_eq, Option.bind_some, Bool.not_eq_true', decide_eq_false_iff_not, h]; simp
theorem impl_RowKeys_ev {k : Nat} (hk : 4294967302 ≤ k) (r : RowT) (hl : r.2.2.length ≤ 4194304) : asO (List ByteArray) (evF cfg0 k 154 r) = some (rkeysF r) := by
  obtain ⟨k, rfl, hk'⟩ := exS hk
  have e1 := impl_RowOk_ev (k := k) (by omega) r hl
  have e2 := impl_RowKeys_l0_ev (k := k) r.2.2 hl k 0 [] (by omega) (by omega) (by omega) (by simp)
  unfold rkeysF
  obtain ⟨c, m, l⟩ := r
  simp only at hl
  rw [impl_RowKeys_eq, e1]
  simp only [Option.bind_some]
  by_cases h : rowOk (c, m, l) = true
  · rw [h, if_pos rfl]
    simp only [Bool.not_true, Bool.false_eq_true, if_false]
    simpa using e2
  · rw [if_neg h, if_pos (by simpa using h)]
def keysF (s : Stp) (x : StS) : List ByteArray := if s.1 = 4 then (x.1.2.2.1 ++ x.1.2.2.2.1).map (fun x => x.1) else rkeysF x.2
theorem rkeys_zero : rkeysF row0 = [] := by
  unfold rkeysF; split <;> rfl
theorem impl_cache_keys_l0_ev {k : Nat} (r1 r2 : Int) (r3 : List Itm) (t : Thr) (hs : Sm t) : ∀ (m : Nat) (i : Int) (acc : List ByteArray), 0 ≤ i → i ≤ (t.2.2.1 ++ t.2.2.2.1).length → (t.2.2.1 ++ t.2.2.2.1).length < i + m → acc.length ≤ i →
    impl_cache_keys_l0 k m r1 r2 r3 t.1 t.2.1 t.2.2.1 t.2.2.2.1 t.2.2.2.2 t.2.2.1 i acc = some (acc ++ ((t.2.2.1 ++ t.2.2.2.1).drop i.toNat).map (fun x => x.1)) := by
  have hl : (t.2.2.1 ++ t.2.2.2.1).length ≤ 4194304 := by rw [List.length_append]; have := hs.1; have := hs.2.1; omega
  intro m
  induction m with
  | zero => intro i acc h0 h1 h2; omega
  | succ m ih =>
    intro i acc h0 h1 h2 h3
    rw [impl_cache_keys_l0_eq]
    simp only
    by_cases h : i < ((t.2.2.1 ++ t.2.2.2.1).length : Int)
    · rw [dropC (d := Ty.dflt tItem) h0 h]
      simp only [app_len]
      simp (disch := (first | assumption | omega)) only [if_pos, if_neg, if_t, if_f, not_true_eq_false, not_false_eq_true, Bool.false_eq_true, Bool.true_eq_false, eq_self, decide_true, decide_false, Bool.not_true, Bool.not_false, decide_eq_true_eq, Option.bind_some, Bool.not_eq_true', decide_eq_false_iff_not, wrp, lim_3, lim_4, lim_9, lim_78, lim_121, lim_128, lim_137]
      rw [ih (i + 1) _ (by omega) (by omega) (by omega) (by simp only [List.length_append, List.length_cons, List.length_nil]; omega)]
      simp
    · rw [dropN h0 h]
      simp (disch := (first | assumption | omega)) only [if_pos, if_neg, if_t, if_f, not_true_eq_false, not_false_eq_true, Bool.false_eq_true, Bool.true_eq_false, eq_self, decide_true, decide_false, Bool.not_true, Bool.not_false, decide_eq_true_eq, Option.bind_some, Bool.not_eq_true', decide_eq_false_iff_not, h]; simp
theorem impl_cache_keys_ev {k : Nat} (hk : 4294967303 ≤ k) (s : Stp) (x : StS) (h : Inv s x) : asO (List ByteArray) (evF cfg0 k 88 (x.2, x.1)) = some (keysF s x) := by
  obtain ⟨k, rfl, hk'⟩ := exS hk
  have e1 := impl_RowKeys_ev (k := k) (by omega) x.2 (by have := h.sr; omega)
  have e2 := impl_copyItems_ev (k := k) (by omega) x.1.2.2.1 (by have := h.sm.1; omega)
  have e3 := impl_cache_keys_l0_ev (k := k) x.2.1 x.2.2.1 x.2.2.2 x.1 h.sm k 0 [] (by omega) (by omega) (by have := h.sm.1; have := h.sm.2.1; rw [List.length_append]; omega) (by simp)
  have l1 := h.sm.1
  have l2 := h.sm.2.1
  unfold keysF
  obtain ⟨⟨t1, t2, t3, t4, t5⟩, r1, r2, r3⟩ := x
  simp only at l1 l2
  rw [impl_cache_keys_eq]
  simp only [decide_eq_true_eq]
  rw [e1, e2]
  simp only [Option.bind_some]
  have lim : t3.length + t4.length ≤ LIM tt 121 := by simp only [lim_3, lim_4, lim_9, lim_78, lim_121, lim_128, lim_137]; omega
  rw [if_pos lim]
  by_cases h4 : s.1 = 4
  · rw [if_pos h4]
    obtain ⟨q1, q2⟩ := h.three h4
    simp only at q1 q2
    rcases q2 with q2 | q2
    · cases q2; rw [if_pos rfl, q1, rkeys_zero]; rfl
    · rw [if_neg (by omega)]
      simpa using e3
  · rw [if_neg h4]
    have q := h.row h4
    simp only at q
    cases q
    rw [if_pos rfl]
def holdsF (s : Stp) (l : List ByteArray) : List ByteArray := if setOk s = true then if aksOk l = true then keysF s (goF s l (newF s) [] 0).1 else [] else []
theorem spec_Holds_l0_ev {k : Nat} (r : StS × List Bool × Int) (hs : Sm r.1.1) : ∀ (m : Nat) (i : Int) (acc : List ByteArray), 0 ≤ i → i ≤ (r.1.1.2.2.1 ++ r.1.1.2.2.2.1).length → (r.1.1.2.2.1 ++ r.1.1.2.2.2.1).length < i + m → acc.length ≤ i →
    spec_Holds_l0 k m r i acc = some (acc ++ ((r.1.1.2.2.1 ++ r.1.1.2.2.2.1).drop i.toNat).map (fun x => x.1)) := by
  have hl : (r.1.1.2.2.1 ++ r.1.1.2.2.2.1).length ≤ 4194304 := by rw [List.length_append]; have := hs.1; have := hs.2.1; omega
  intro m
  induction m with
  | zero => intro i acc h0 h1 h2; omega
  | succ m ih =>
    intro i acc h0 h1 h2 h3
    rw [spec_Holds_l0_eq]
    simp only [List.nil_append]
    by_cases h : i < ((r.1.1.2.2.1 ++ r.1.1.2.2.2.1).length : Int)
    · rw [dropC (d := Ty.dflt tItem) h0 h]
      simp only [app_len]
      simp (disch := (first | assumption | omega)) only [if_pos, if_neg, if_t, if_f, not_true_eq_false, not_false_eq_true, Bool.false_eq_true, Bool.true_eq_false, eq_self, decide_true, decide_false, Bool.not_true, Bool.not_false, decide_eq_true_eq, Option.bind_some, Bool.not_eq_true', decide_eq_false_iff_not, wrp, lim_3, lim_4, lim_9, lim_78, lim_121, lim_128, lim_137]
      rw [ih (i + 1) _ (by omega) (by omega) (by omega) (by simp only [List.length_append, List.length_cons, List.length_nil]; omega)]
      simp
    · rw [dropN h0 h]
      simp (disch := (first | assumption | omega)) only [if_pos, if_neg, if_t, if_f, not_true_eq_false, not_false_eq_true, Bool.false_eq_true, Bool.true_eq_false, eq_self, decide_true, decide_false, Bool.not_true, Bool.not_false, decide_eq_true_eq, Option.bind_some, Bool.not_eq_true', decide_eq_false_iff_not, h]; simp
theorem spec_Holds_ev {k : Nat} (hk : 4294967305 ≤ k) (s : Stp) (l : List ByteArray) (hl : l.length ≤ 4194304) : asO (List ByteArray) (evF cfg0 k 26 (s, l)) = some (holdsF s l) := by
  obtain ⟨k, rfl, hk'⟩ := exS hk
  have e1 := spec_SetupOk_ev (k := k) (by omega) s
  have e2 := spec_AsksOk_ev (k := k) (by omega) l hl
  have e3 := spec_l12Go_ev (k := k) (by omega) s l hl
  have g := (go_res s l (newF s) [] 0 (new_inv s) (by omega)).1
  have l1 := g.sm.1
  have l2 := g.sm.2.1
  have e4 := spec_RowKeys_ev (k := k) (by omega) (goF s l (newF s) [] 0).1.2 (by have := g.sr; omega)
  have e5 := spec_Holds_l0_ev (k := k) (goF s l (newF s) [] 0) g.sm k 0 [] (by omega) (by omega) (by rw [List.length_append]; omega) (by simp)
  unfold holdsF aksOk keysF
  obtain ⟨a, b, c⟩ := s
  rw [spec_Holds_eq, e1]
  simp only [Option.bind_some]
  by_cases h1 : setOk (a, b, c) = true
  · rw [if_pos h1, h1, e2]
    simp only [Option.bind_some, Bool.not_true, Bool.false_eq_true, if_false]
    by_cases h2 : (aksF l && decide ((l.length : Int) ≤ 300)) = true
    · rw [if_pos h2, h2, e3]
      simp only [Option.bind_some, Bool.not_true, Bool.false_eq_true, if_false]
      rw [e4]
      by_cases h3 : a = 4
      · subst h3
        simp (disch := (first | assumption | omega)) only [if_pos, if_neg, if_t, if_f, not_true_eq_false, not_false_eq_true, Bool.false_eq_true, Bool.true_eq_false, eq_self, decide_true, decide_false, Bool.not_true, Bool.not_false, decide_eq_true_eq, Option.bind_some, Bool.not_eq_true', decide_eq_false_iff_not, List.length_nil, List.nil_append, lim_3, lim_4, lim_9, lim_78, lim_121, lim_128, lim_137]
        simpa using e5
      · simp (disch := (first | assumption | omega)) only [if_pos, if_neg, if_t, if_f, not_true_eq_false, not_false_eq_true, Bool.false_eq_true, Bool.true_eq_false, eq_self, decide_true, decide_false, Bool.not_true, Bool.not_false, decide_eq_true_eq, Option.bind_some, Bool.not_eq_true', decide_eq_false_iff_not, h3]
    · rw [if_neg h2, if_pos (by simpa only [Bool.not_eq_true, Bool.not_eq_true'] using h2)]
  · rw [if_neg h1, if_pos (by simpa using h1)]
theorem impl_Holds_ev {k : Nat} (hk : 4294967305 ≤ k) (s : Stp) (l : List ByteArray) (hl : l.length ≤ 4194304) : asO (List ByteArray) (evF cfg0 k 27 (s, l)) = some (holdsF s l) := by
  obtain ⟨k, rfl, hk'⟩ := exS hk
  have e1 := impl_SetupOk_ev (k := k) (by omega) s
  have e2 := impl_AsksOk_ev (k := k) (by omega) l hl
  have e3 := impl_asked_ev (k := k) (by omega) s l hl
  have g := (go_res s l (newF s) [] 0 (new_inv s) (by omega)).1
  have e4 := impl_cache_keys_ev (k := k) (by omega) s _ g
  unfold holdsF aksOk
  obtain ⟨a, b, c⟩ := s
  rw [impl_Holds_eq, e1]
  simp only [Option.bind_some]
  by_cases h1 : setOk (a, b, c) = true
  · rw [if_pos h1, h1, e2]
    simp only [Option.bind_some, Bool.not_true, Bool.false_eq_true, if_false]
    by_cases h2 : (aksF l && decide ((l.length : Int) ≤ 300)) = true
    · rw [if_pos h2, h2, e3]
      simp only [Option.bind_some, Bool.not_true, Bool.false_eq_true, if_false]
      rw [e4]; rfl
    · rw [if_neg h2, if_pos (by simpa only [Bool.not_eq_true, Bool.not_eq_true'] using h2)]
  · rw [if_neg h1, if_pos (by simpa using h1)]
theorem holds_len (s : Stp) (l : List ByteArray) : (holdsF s l).length ≤ 4194304 := by
  unfold holdsF keysF rkeysF
  have g := (go_res s l (newF s) [] 0 (new_inv s) (by omega)).1
  have l1 := g.sm.1
  have l2 := g.sm.2.1
  have l3 := g.sr
  repeat' split
  all_goals simp only [List.length_map, List.length_append, List.length_nil]
  all_goals omega
theorem laws_toSetup_ev {k : Nat} (hk : 4294967297 ≤ k) (s : Stp) : asO Stp (evF cfg0 k 18 s) = some s := by
  obtain ⟨k, rfl, hk⟩ := exS hk
  obtain ⟨a, b, c⟩ := s
  rw [laws_toSetup_eq]

theorem law_HitsOf {k : Nat} (hk : 4294967396 ≤ k) (s : Stp) (l : List ByteArray) (hl : l.length ≤ 1048576) (b : ∀ x ∈ l, x.size ≤ 1048576) : asO Bool (evF cfg0 (k + 1) 4 (s, l)) = some true := by
  obtain ⟨r1, e1, p1, q1⟩ := laws_szStringS_ev (k := k) (by omega) l 1048576 (by omega) (by omega) (by omega) b
  have e2 := laws_toSetup_ev (k := k) (by omega) s
  have e3 := laws_toStringS_ev (k := k) (by omega) l (by omega)
  have e4 := spec_HitsOf_ev (k := k) (by omega) s l (by omega)
  have e5 := impl_HitsOf_ev (k := k) (by omega) s l (by omega)
  have wl : (hitsF s l).length ≤ 4194304 := Nat.le_trans (hits_len s l) (by omega)
  have e6 := laws_eqBoolS_ev (k := k) (by omega) (hitsF s l) wl
  have e7 := laws_eqStringS_ev (k := k) (by omega) l (by omega)
  have e8 := laws_markStringS_ev (k := k) (by omega) l 1 (by omega) (by omega) (by omega)
  have e9 := laws_markBoolS_ev (k := k) (by omega) (hitsF s l) 1 wl (by omega) (by omega)
  have e10 := laws_heldBoolS_ev (k := k) (by omega) 1 (hitsF s l).length wl (by omega) (by omega)
  have n1 : ¬ 1 + ((1 : Nat) : Int) * l.length < 0 := by omega
  have n2 : ¬ 1 + ((1 : Nat) : Int) * (hitsF s l).length < 0 := by omega
  obtain ⟨a, b, c⟩ := s
  rw [laws_FnExactHitsOf_eq, e1]
  simp only [Option.bind_some, decide_eq_true_eq]
  by_cases h1 : r1 < 0
  · rw [if_pos h1]
  · rw [if_neg h1, e2, e3]
    simp only [Option.bind_some]
    rw [e4, e5]
    simp only [Option.bind_some]
    rw [e6, e7]
    simp only [Option.bind_some, Bool.not_true, Bool.false_eq_true, if_false]
    rw [e8]
    simp only [Option.bind_some]
    rw [if_neg n1, e9]
    simp only [Option.bind_some]
    rw [e10]
    simp only [Option.bind_some]
    rw [if_neg n2]
    simp (disch := (first | assumption | omega)) only [if_pos, if_neg, if_t, if_f, not_true_eq_false, not_false_eq_true, Bool.false_eq_true, Bool.true_eq_false, eq_self, decide_true, decide_false, Bool.not_true, Bool.not_false, decide_eq_true_eq, Option.bind_some, Bool.not_eq_true', decide_eq_false_iff_not, n1, n2]
theorem plHitsOf (x : Ty.D ((.st (.pair (.int .i64) (.pair (.int .i64) (.int .i64)))))) (y : Ty.D ((.slice 9 .str))) (hx : InT _ x) (hy : InT _ y) (hb : bulkT _ x + bulkT _ y ≤ 1048576) : ∃ k, evF cfg0 k 4 (x, y) = some true := by
  obtain ⟨z, hz⟩ : ∃ z, 4294967396 ≤ z := ⟨_, Nat.le_refl _⟩
  refine ⟨z + 1, ?_⟩
  have hb' : bulkT _ x + sumB (fun x : ByteArray => x.size) y ≤ 1048576 := hb
  have b4 := sumB_le (fun x : ByteArray => x.size) y
  have h : asO Bool (evF cfg0 (z + 1) 4 ((x : Stp), (y : List ByteArray))) = some true := by
    refine law_HitsOf hz x y ?_ ?_
    · exact Nat.le_trans b4.1 (by omega)
    · intro x hx; have := b4.2 x hx; omega
  exact asO_true h
theorem law_Holds {k : Nat} (hk : 4294967396 ≤ k) (s : Stp) (l : List ByteArray) (hl : l.length ≤ 1048576) (b : ∀ x ∈ l, x.size ≤ 1048576) : asO Bool (evF cfg0 (k + 1) 5 (s, l)) = some true := by
  obtain ⟨r1, e1, p1, q1⟩ := laws_szStringS_ev (k := k) (by omega) l 1048576 (by omega) (by omega) (by omega) b
  have e2 := laws_toSetup_ev (k := k) (by omega) s
  have e3 := laws_toStringS_ev (k := k) (by omega) l (by omega)
  have e4 := spec_Holds_ev (k := k) (by omega) s l (by omega)
  have e5 := impl_Holds_ev (k := k) (by omega) s l (by omega)
  have wl : (holdsF s l).length ≤ 4194304 := holds_len s l
  have e6 := laws_eqStringS_ev (k := k) (by omega) (holdsF s l) wl
  have e7 := laws_eqStringS_ev (k := k) (by omega) l (by omega)
  have e8 := laws_markStringS_ev (k := k) (by omega) l 1 (by omega) (by omega) (by omega)
  have e9 := laws_markStringS_ev (k := k) (by omega) (holdsF s l) 1 wl (by omega) (by omega)
  have e10 := laws_heldStringS_ev (k := k) (by omega) 1 (holdsF s l).length wl (by omega) (by omega)
  have n1 : ¬ 1 + ((1 : Nat) : Int) * l.length < 0 := by omega
  have n2 : ¬ 1 + ((1 : Nat) : Int) * (holdsF s l).length < 0 := by omega
  obtain ⟨a, b, c⟩ := s
  rw [laws_FnExactHolds_eq, e1]
  simp only [Option.bind_some, decide_eq_true_eq]
  by_cases h1 : r1 < 0
  · rw [if_pos h1]
  · rw [if_neg h1, e2, e3]
    simp only [Option.bind_some]
    rw [e4, e5]
    simp only [Option.bind_some]
    rw [e6, e7]
    simp only [Option.bind_some, Bool.not_true, Bool.false_eq_true, if_false]
    rw [e8]
    simp only [Option.bind_some]
    rw [if_neg n1, e9]
    simp only [Option.bind_some]
    rw [e10]
    simp only [Option.bind_some]
    rw [if_neg n2]
    simp (disch := (first | assumption | omega)) only [if_pos, if_neg, if_t, if_f, not_true_eq_false, not_false_eq_true, Bool.false_eq_true, Bool.true_eq_false, eq_self, decide_true, decide_false, Bool.not_true, Bool.not_false, decide_eq_true_eq, Option.bind_some, Bool.not_eq_true', decide_eq_false_iff_not, n1, n2]
theorem plHolds (x : Ty.D ((.st (.pair (.int .i64) (.pair (.int .i64) (.int .i64)))))) (y : Ty.D ((.slice 9 .str))) (hx : InT _ x) (hy : InT _ y) (hb : bulkT _ x + bulkT _ y ≤ 1048576) : ∃ k, evF cfg0 k 5 (x, y) = some true := by
  obtain ⟨z, hz⟩ : ∃ z, 4294967396 ≤ z := ⟨_, Nat.le_refl _⟩
  refine ⟨z + 1, ?_⟩
  have hb' : bulkT _ x + sumB (fun x : ByteArray => x.size) y ≤ 1048576 := hb
  have b4 := sumB_le (fun x : ByteArray => x.size) y
  have h : asO Bool (evF cfg0 (z + 1) 5 ((x : Stp), (y : List ByteArray))) = some true := by
    refine law_Holds hz x y ?_ ?_
    · exact Nat.le_trans b4.1 (by omega)
    · intro x hx; have := b4.2 x hx; omega
  exact asO_true h
end Go.Proofs.Ytgnnljpdcafdkaa.Ev

/- From a call's contract to the law's own statement: arguments as data. -/
namespace Go.Proofs.Ytgnnljpdcafdkaa.Ev
open Go
open Go.WideShapes Go.RowKit

def noFr : Frn := fun _ _ _ _ => False

theorem bulk_le {H : Type} {l : List (DataW H)} (hk : Rows.uptoSmall H l = true) : Rows.uptoBulkAll l ≤ 1048576 := of_decide_eq_true hk

section
variable {H : Type} {enc : TypeId × Value → H} {P : Program} {tt : TT} {W : World}

theorem arg_rd (ok : TTok P tt) (hc : ∀ T t, tt.shape T = some t → chkT P tt T t = true) {T : TypeId} {t : Ty} (hs : tt.shape T = some t) (hp' : (tt.shape T).map plainT = some true) {base : Nat} {v : Value} {d : DataW H} {ps : List MemPlace} (hval : Value.okWide P W .any base T v) (hd : DataW.Trod enc P W 0 (fun _ => true) true T v d ps) :
    ∃ x : t.D, (∃ cs, ValC t v cs ∧ RdC noFr (okB W []) W t x cs) ∧ InT t x ∧ bulkT t x + 1 ≤ Rows.uptoBulk d := by
  have hp : plainT t = true := by rw [hs] at hp'; simpa using hp'
  obtain ⟨fuel, hf⟩ := hd
  obtain ⟨x, h1, h2, h3⟩ := trod_rd (Fr := noFr) ok hc fuel hs hp hf
  refine ⟨x, ⟨v.cells.toList, ?_, h1.mono (fun b hb => ⟨hb, by simp⟩) fun _ _ => rfl⟩, h2, h3⟩
  have hck := hc T t hs
  unfold ValC
  rcases chk_no hck with ⟨k, rfl⟩ | rfl | rfl | ⟨e, t', rfl⟩ | ⟨t', rfl⟩
  · obtain ⟨n, rfl⟩ := okWide_int (chk_int hck) hval
    rfl
  · obtain ⟨n, rfl⟩ := okWide_bool (chk_bool hck) hval
    rfl
  · obtain ⟨n, rfl⟩ := okWide_string (chk_str hck) hval
    rfl
  · obtain ⟨a, l, c, rfl⟩ := okWide_slice (chk_slice hck).1 hval
    rfl
  · obtain ⟨fs, hu, _⟩ := chk_st hck
    simp only [Value.okWide, hu] at hval
    obtain ⟨cs, rfl, _⟩ := hval
    simp [Ty.isAgg, Value.cells]

theorem keeps_below {w w' : World} (h : Keeps (· ∈ ([] : List Nat)) w w') : Below w.heap.size w w' := ⟨h.os, h.tape, h.output, h.size, fun k hk => h.block k hk (by simp)⟩
theorem noFr_at (ok : Nat → Prop) (w : World) : FrAt noFr ok w := fun _ _ _ _ h => h.elim

theorem ret_true {w' : World} {vs : List Value} {r : List Nat} (h : ResV noFr w' [.bool] true vs r) : retOf vs = .bool true := by
  obtain ⟨u, cs, rfl, h1, h2⟩ := h
  obtain ⟨rfl, _⟩ := h2
  have : [Value.bool true] = [u] := h1
  simp at this
  rw [← this]; rfl

theorem walk1 {n : FuncId} {a : Ty} {x : a.D} (h : CallOk P ⟨[.val a], [.bool]⟩ n x true) {v0 : Value} (h0 : ∃ cs, ValC a v0 cs ∧ RdC noFr (okB W []) W a x cs) :
    Calls P n #[v0] W fun e W' => e = .returned (.bool true) ∧ Below W.heap.size W W' := by
  obtain ⟨cs, k1, k2⟩ := h0
  refine (h.2 W noFr [v0] [] [] (noFr_at _ _) ⟨v0, rfl, rfl, rfl, cs, k1, k2⟩ List.nodup_nil).mono ?_
  rintro e w' ⟨vs, r1, r2, rfl, hk, hres, _⟩
  exact ⟨by rw [ret_true hres], keeps_below hk⟩
theorem walk2 {n : FuncId} {a b : Ty} {x : a.D} {y : b.D} (h : CallOk P ⟨[.val a, .val b], [.bool]⟩ n (x, y) true) {v0 v1 : Value} (h0 : ∃ cs, ValC a v0 cs ∧ RdC noFr (okB W []) W a x cs) (h1 : ∃ cs, ValC b v1 cs ∧ RdC noFr (okB W []) W b y cs) :
    Calls P n #[v0, v1] W fun e W' => e = .returned (.bool true) ∧ Below W.heap.size W W' := by
  obtain ⟨cs, k1, k2⟩ := h0
  obtain ⟨cs', k3, k4⟩ := h1
  refine (h.2 W noFr [v0, v1] [] [] (noFr_at _ _) ⟨v0, [v1], [], [], [], [], rfl, rfl, rfl, ⟨rfl, rfl, cs, k1, k2⟩, v1, rfl, rfl, rfl, cs', k3, k4⟩ List.nodup_nil).mono ?_
  rintro e w' ⟨vs, r1, r2, rfl, hk, hres, _⟩
  exact ⟨by rw [ret_true hres], keeps_below hk⟩
theorem walk3 {n : FuncId} {a b c : Ty} {x : a.D} {y : b.D} {z : c.D} (h : CallOk P ⟨[.val a, .val b, .val c], [.bool]⟩ n (x, y, z) true) {v0 v1 v2 : Value} (h0 : ∃ cs, ValC a v0 cs ∧ RdC noFr (okB W []) W a x cs) (h1 : ∃ cs, ValC b v1 cs ∧ RdC noFr (okB W []) W b y cs) (h2 : ∃ cs, ValC c v2 cs ∧ RdC noFr (okB W []) W c z cs) :
    Calls P n #[v0, v1, v2] W fun e W' => e = .returned (.bool true) ∧ Below W.heap.size W W' := by
  obtain ⟨cs, k1, k2⟩ := h0
  obtain ⟨cs', k3, k4⟩ := h1
  obtain ⟨cs2, k5, k6⟩ := h2
  refine (h.2 W noFr [v0, v1, v2] [] [] (noFr_at _ _) ⟨v0, [v1, v2], [], [], [], [], rfl, rfl, rfl, ⟨rfl, rfl, cs, k1, k2⟩, v1, [v2], [], [], [], [], rfl, rfl, rfl, ⟨rfl, rfl, cs', k3, k4⟩, v2, rfl, rfl, rfl, cs2, k5, k6⟩ List.nodup_nil).mono ?_
  rintro e w' ⟨vs, r1, r2, rfl, hk, hres, _⟩
  exact ⟨by rw [ret_true hres], keeps_below hk⟩
end
end Go.Proofs.Ytgnnljpdcafdkaa.Ev
