/- A part of a proof: an evaluator of the program's functions over plain values, and what it shows. -/
import Derived.Test.YtgnnljpdcafdkaaEv5
set_option linter.unusedVariables false
set_option linter.unusedSimpArgs false
set_option linter.unusedSectionVars false
/- Lists of items: without one, touched; what is put out of a queue. -/
namespace Go.Proofs.Ytgnnljpdcafdkaa.Ev
open Go
set_option linter.unusedVariables false

def butI (key : ByteArray) (l : List Itm) : List Itm := l.filter fun x => !decide (x.1 = key)
theorem butI_len (key : ByteArray) (l : List Itm) : (butI key l).length ≤ l.length := List.length_filter_le _ _
theorem spec_l10Without_l0_ev {k : Nat} (l : List Itm) (h : ByteArray) (hl : l.length ≤ 4194304) : ∀ (m : Nat) (i : Int) (acc : List Itm), 0 ≤ i → i ≤ l.length → l.length < i + m → acc.length ≤ i → spec_l10Without_l0 k m l h i acc = some (acc ++ butI h (l.drop i.toNat)) := by
  intro m
  induction m with
  | zero => intro i acc h0 h1 h2; omega
  | succ m ih =>
    intro i acc h0 h1 h2 hacc
    rw [spec_l10Without_l0_eq]
    by_cases h3 : i < (l.length : Int)
    · rw [dropC (d := Ty.dflt tItem) h0 h3, seq_dec]
      by_cases h4 : (l.getD i.toNat (Ty.dflt tItem)).1 = h
      · simp (disch := (first | assumption | omega)) only [if_pos, if_neg, if_t, if_f, not_true_eq_false, not_false_eq_true, Bool.false_eq_true, Bool.true_eq_false, eq_self, decide_true, decide_false, Bool.not_true, Bool.not_false, decide_eq_true_eq, Option.bind_some, Bool.not_eq_true', decide_eq_false_iff_not, h4, wrp]
        rw [ih (i + 1) acc (by omega) (by omega) (by omega) (by omega)]
        simp only [butI]
        rw [List.filter_cons_of_neg (by simp only [decide_eq_true h4]; simp)]
      · have e : acc.length + [l.getD i.toNat (Ty.dflt tItem)].length ≤ 4194305 := by simp only [List.length_cons, List.length_nil]; omega
        simp (disch := (first | assumption | omega)) only [if_pos, if_neg, if_t, if_f, not_true_eq_false, not_false_eq_true, Bool.false_eq_true, Bool.true_eq_false, eq_self, decide_true, decide_false, Bool.not_true, Bool.not_false, decide_eq_true_eq, Option.bind_some, Bool.not_eq_true', decide_eq_false_iff_not, h4, wrp, lim_3, lim_4, lim_9, lim_78, lim_121, lim_128, lim_137]
        rw [ih (i + 1) (acc ++ [l.getD i.toNat (Ty.dflt tItem)]) (by omega) (by omega) (by omega) (by rw [List.length_append]; simp only [List.length_cons, List.length_nil]; omega)]
        simp only [butI]
        rw [List.filter_cons_of_pos (by simp only [decide_eq_false h4, Bool.not_false]), List.append_assoc]; rfl
    · rw [dropN h0 h3]
      simp (disch := (first | assumption | omega)) only [if_pos, if_neg, if_t, if_f, not_true_eq_false, not_false_eq_true, Bool.false_eq_true, Bool.true_eq_false, eq_self, decide_true, decide_false, Bool.not_true, Bool.not_false, decide_eq_true_eq, Option.bind_some, Bool.not_eq_true', decide_eq_false_iff_not, h3]; simp [butI]
theorem spec_l10Without_ev {k : Nat} (hk : 4294967297 ≤ k) (l : List Itm) (h : ByteArray) (hl : l.length ≤ 4194304) : asO (List Itm) (evF cfg0 k 189 (l, h)) = some (butI h l) := by
  obtain ⟨k, rfl, hk⟩ := exS hk
  rw [spec_l10Without_eq]
  simpa using spec_l10Without_l0_ev (k := k) l h hl k 0 [] (by omega) (by omega) (by omega) (by simp)

theorem atF_split (h : ByteArray) : ∀ (l : List Itm) (i : Int), 0 ≤ i → (atF h l i = -1 → butI h l = l) ∧ (atF h l i ≠ -1 → i ≤ atF h l i ∧ atF h l i < i + l.length ∧ l.take (atF h l i - i).toNat ++ butI h (l.drop (atF h l i - i + 1).toNat) = butI h l)
  | [], i, hi => ⟨fun _ => rfl, fun e => absurd rfl e⟩
  | x :: r, i, hi => by
    have := atF_split h r (i + 1) (by omega)
    unfold atF
    by_cases e : x.1 = h
    · simp only [if_pos e]
      refine ⟨fun q => absurd q (by omega), fun _ => ⟨by omega, by simp only [List.length_cons]; omega, ?_⟩⟩
      rw [Int.sub_self]
      simp [butI, e]
    · simp only [if_neg e]
      have hb : butI h (x :: r) = x :: butI h r := by
        simp only [butI]; rw [List.filter_cons_of_pos (by simp only [decide_eq_false e, Bool.not_false])]
      refine ⟨fun q => by rw [hb, this.1 q], fun q => ?_⟩
      have t3 := this.2 q
      have e1 : (atF h r (i + 1) - i).toNat = (atF h r (i + 1) - (i + 1)).toNat + 1 := by omega
      have e2 : (atF h r (i + 1) - i + 1).toNat = (atF h r (i + 1) - (i + 1) + 1).toNat + 1 := by omega
      refine ⟨by omega, by simp only [List.length_cons]; omega, ?_⟩
      rw [e1, e2, List.take_succ_cons, List.drop_succ_cons, hb, List.cons_append, t3.2.2]
theorem atF_bd (h : ByteArray) (l : List Itm) (hp : 0 ≤ atF h l 0) : atF h l 0 < l.length := by
  have := (atF_split h l 0 (by omega)).2 (by omega); omega
theorem slices_IndexFunc__impl_Item_impl_Item_impl_Drop_1_l0_ev {k : Nat} (hk : 4294967297 ≤ k) (l : List Itm) (key : ByteArray) (hl : l.length ≤ 4194304) : ∀ (m : Nat) (i : Int), 0 ≤ i → i ≤ l.length → l.length < i + m → slices_IndexFunc__impl_Item_impl_Item_impl_Drop_1_l0 k m l key i = some (atF key (l.drop i.toNat) i) := by
  intro m
  induction m with
  | zero => intro i h0 h1 h2; omega
  | succ m ih =>
    intro i h0 h1 h2
    rw [slices_IndexFunc__impl_Item_impl_Item_impl_Drop_1_l0_eq]
    by_cases h : i < (l.length : Int)
    · rw [dropC (d := Ty.dflt tItem) h0 h, impl_Drop_1_ev hk]
      by_cases h4 : (l.getD i.toNat (Ty.dflt tItem)).1 = key
      · simp (disch := (first | assumption | omega)) only [if_pos, if_neg, if_t, if_f, not_true_eq_false, not_false_eq_true, Bool.false_eq_true, Bool.true_eq_false, eq_self, decide_true, decide_false, Bool.not_true, Bool.not_false, decide_eq_true_eq, Option.bind_some, Bool.not_eq_true', decide_eq_false_iff_not, atF, h4]
      · simp (disch := (first | assumption | omega)) only [if_pos, if_neg, if_t, if_f, not_true_eq_false, not_false_eq_true, Bool.false_eq_true, Bool.true_eq_false, eq_self, decide_true, decide_false, Bool.not_true, Bool.not_false, decide_eq_true_eq, Option.bind_some, Bool.not_eq_true', decide_eq_false_iff_not, atF, h4, wrp]
        exact ih (i + 1) (by omega) (by omega) (by omega)
    · rw [dropN h0 h]
      simp (disch := (first | assumption | omega)) only [if_pos, if_neg, if_t, if_f, not_true_eq_false, not_false_eq_true, Bool.false_eq_true, Bool.true_eq_false, eq_self, decide_true, decide_false, Bool.not_true, Bool.not_false, decide_eq_true_eq, Option.bind_some, Bool.not_eq_true', decide_eq_false_iff_not, atF, h]
theorem slices_IndexFunc__impl_Item_impl_Item_impl_Drop_1_ev {k : Nat} (hk : 4294967298 ≤ k) (l : List Itm) (key : ByteArray) (hl : l.length ≤ 4194304) : asO Int (evF cfg0 k 207 (l, 194, key)) = some (atF key l 0) := by
  obtain ⟨k, rfl, hk⟩ := exS hk
  rw [slices_IndexFunc__impl_Item_impl_Item_impl_Drop_1_eq]
  simpa using slices_IndexFunc__impl_Item_impl_Item_impl_Drop_1_l0_ev (k := k) (by omega) l key hl k 0 (by omega) (by omega) (by omega)
theorem slices_DeleteFunc__impl_Item_impl_Item_l0_ev {k : Nat} (hk : 4294967297 ≤ k) (h : ByteArray) : ∀ (m : Nat) (i j : Int) (l : List Itm), l.length ≤ 4194304 → 0 ≤ i → i ≤ j → j ≤ l.length → l.length < j + m → slices_DeleteFunc__impl_Item_impl_Item_l0 k m h i j l = some (l.take i.toNat ++ butI h (l.drop j.toNat)) := by
  intro m
  induction m with
  | zero => intro i j l hl h0 h1 h2; omega
  | succ m ih =>
    intro i j l hl h0 h1 h2 h2'
    rw [slices_DeleteFunc__impl_Item_impl_Item_l0_eq]
    by_cases h3 : j < (l.length : Int)
    · have ei : IntKind.wrap .i64 (i + 1) = i + 1 := wrp (by omega) (by omega)
      have ej : IntKind.wrap .i64 (j + 1) = j + 1 := wrp (by omega) (by omega)
      rw [dropC (d := Ty.dflt tItem) (by omega) h3, impl_Drop_1_ev hk]
      by_cases h4 : (l.getD j.toNat (Ty.dflt tItem)).1 = h
      · simp (disch := (first | assumption | omega)) only [if_pos, if_neg, if_t, if_f, not_true_eq_false, not_false_eq_true, Bool.false_eq_true, Bool.true_eq_false, eq_self, decide_true, decide_false, Bool.not_true, Bool.not_false, decide_eq_true_eq, Option.bind_some, Bool.not_eq_true', decide_eq_false_iff_not, h4, ei, ej]
        rw [ih i (j + 1) l (by omega) (by omega) (by omega) (by omega) (by omega)]
        simp only [butI]
        rw [List.filter_cons_of_neg (by simp only [decide_eq_true h4]; simp)]
      · simp (disch := (first | assumption | omega)) only [if_pos, if_neg, if_t, if_f, not_true_eq_false, not_false_eq_true, Bool.false_eq_true, Bool.true_eq_false, eq_self, decide_true, decide_false, Bool.not_true, Bool.not_false, decide_eq_true_eq, Option.bind_some, Bool.not_eq_true', decide_eq_false_iff_not, h4, ei, ej]
        rw [ih (i + 1) (j + 1) (l.set i.toNat (l.getD j.toNat (Ty.dflt tItem))) (by rw [List.length_set]; omega) (by omega) (by omega) (by rw [List.length_set]; omega) (by rw [List.length_set]; omega)]
        rw [tn1 h0, take_set _ _ _ (by omega), tn1 (by omega : 0 ≤ j), drop_set _ _ _ _ (by omega)]
        simp only [butI]
        rw [List.filter_cons_of_pos (by simp only [decide_eq_false h4, Bool.not_false]), List.append_assoc]; rfl
    · rw [dropN (by omega) h3]
      have hi : i.toNat ≤ l.length := by omega
      have e : (l.take i.toNat ++ (List.replicate (l.length - i.toNat) (Ty.dflt tItem) ++ l.drop (i.toNat + (l.length - i.toNat)))).length = l.length := by
        simp only [List.length_append, List.length_take, List.length_replicate, List.length_drop]; omega
      rw [e]
      simp (disch := (first | assumption | omega)) only [if_pos, if_neg, if_t, if_f, not_true_eq_false, not_false_eq_true, Bool.false_eq_true, Bool.true_eq_false, eq_self, decide_true, decide_false, Bool.not_true, Bool.not_false, decide_eq_true_eq, Option.bind_some, Bool.not_eq_true', decide_eq_false_iff_not, h3]
      rw [take_le _ _ _ hi]
      simp [butI]
theorem slices_DeleteFunc__impl_Item_impl_Item_ev {k : Nat} (hk : 4294967299 ≤ k) (l : List Itm) (h : ByteArray) (hl : l.length ≤ 1048577) : asO (List Itm) (evF cfg0 k 195 (l, 194, h)) = some (butI h l) := by
  obtain ⟨k, rfl, hk⟩ := exS hk
  rw [slices_DeleteFunc__impl_Item_impl_Item_eq, slices_IndexFunc__impl_Item_impl_Item_impl_Drop_1_ev (by omega) l h (by omega)]
  have key := atF_split h l 0 (by omega)
  by_cases e : atF h l 0 = -1
  · simp (disch := (first | assumption | omega)) only [if_pos, if_neg, if_t, if_f, not_true_eq_false, not_false_eq_true, Bool.false_eq_true, Bool.true_eq_false, eq_self, decide_true, decide_false, Bool.not_true, Bool.not_false, decide_eq_true_eq, Option.bind_some, Bool.not_eq_true', decide_eq_false_iff_not, e]
    rw [key.1 e]
  · have k2 := key.2 e
    have ej : IntKind.wrap .i64 (atF h l 0 + 1) = atF h l 0 + 1 := wrp (by omega) (by omega)
    simp (disch := (first | assumption | omega)) only [if_pos, if_neg, if_t, if_f, not_true_eq_false, not_false_eq_true, Bool.false_eq_true, Bool.true_eq_false, eq_self, decide_true, decide_false, Bool.not_true, Bool.not_false, decide_eq_true_eq, Option.bind_some, Bool.not_eq_true', decide_eq_false_iff_not, e, ej]
    rw [slices_DeleteFunc__impl_Item_impl_Item_l0_ev (by omega) h k _ _ l (by omega) (by omega) (by omega) (by omega) (by omega)]
    have k3 := k2.2.2
    simp only [Int.sub_zero] at k3
    rw [k3]

/-! ### an item that is touched -/
def moreF (n : Int) : Int := if 3 ≤ n then 3 else n + 1
theorem spec_l10More_ev {k : Nat} (hk : 4294967297 ≤ k) (n : Int) (h1 : -100 ≤ n) (h2 : n ≤ 100) : asO Int (evF cfg0 k 213 n) = some (moreF n) := by
  obtain ⟨k, rfl, hk⟩ := exS hk
  rw [spec_l10More_eq, moreF]
  by_cases h : 3 ≤ n
  · simp (disch := (first | assumption | omega)) only [if_pos, if_neg, if_t, if_f, not_true_eq_false, not_false_eq_true, Bool.false_eq_true, Bool.true_eq_false, eq_self, decide_true, decide_false, Bool.not_true, Bool.not_false, decide_eq_true_eq, Option.bind_some, Bool.not_eq_true', decide_eq_false_iff_not, h]
  · simp (disch := (first | assumption | omega)) only [if_pos, if_neg, if_t, if_f, not_true_eq_false, not_false_eq_true, Bool.false_eq_true, Bool.true_eq_false, eq_self, decide_true, decide_false, Bool.not_true, Bool.not_false, decide_eq_true_eq, Option.bind_some, Bool.not_eq_true', decide_eq_false_iff_not, h, wrp]
def frq (l : List Itm) : Prop := ∀ x ∈ l, 0 ≤ x.2.2 ∧ x.2.2 ≤ 3
theorem frq_at {l : List Itm} (h : frq l) {i : Int} (h0 : 0 ≤ i) (h1 : i < l.length) : 0 ≤ (l.getD i.toNat (Ty.dflt tItem)).2.2 ∧ (l.getD i.toNat (Ty.dflt tItem)).2.2 ≤ 3 := h _ (getD_lt (by omega))
def tchF (l : List Itm) (i : Int) (set : Bool) (val : ByteArray) : List Itm × ByteArray :=
  let x : Itm := l.getD i.toNat (Ty.dflt tItem)
  let v := if set then val else x.2.1
  (l.set i.toNat (x.1, v, moreF x.2.2), v)
def touchF (t : Thr) (key : ByteArray) (set : Bool) (val : ByteArray) : Thr × ByteArray × Bool :=
  if 0 ≤ atF key t.2.2.1 0 then ((t.1, t.2.1, (tchF t.2.2.1 (atF key t.2.2.1 0) set val).1, t.2.2.2.1, t.2.2.2.2), (tchF t.2.2.1 (atF key t.2.2.1 0) set val).2, true)
  else if 0 ≤ atF key t.2.2.2.1 0 then ((t.1, t.2.1, t.2.2.1, (tchF t.2.2.2.1 (atF key t.2.2.2.1 0) set val).1, t.2.2.2.2), (tchF t.2.2.2.1 (atF key t.2.2.2.1 0) set val).2, true)
  else (t, (⟨#[]⟩ : ByteArray), false)
theorem spec_l10Touch_ev {k : Nat} (hk : 4294967298 ≤ k) (t : Thr) (key : ByteArray) (set : Bool) (val : ByteArray) (h1 : t.2.2.1.length ≤ 1048576) (h2 : t.2.2.2.1.length ≤ 1048576) (f1 : frq t.2.2.1) (f2 : frq t.2.2.2.1) (hn : ¬ (0 ≤ atF key t.2.2.1 0 ∧ 0 ≤ atF key t.2.2.2.1 0)) :
    asO (Thr × ByteArray × Bool) (evF cfg0 k 185 (t, key, set, val)) = some (touchF t key set val) := by
  obtain ⟨k, rfl, hk⟩ := exS hk
  obtain ⟨c, m, s, a, g⟩ := t
  simp only at h1 h2 f1 f2 hn
  rw [spec_l10Touch_eq, spec_l10At_ev (by omega) s key (by omega), spec_l10At_ev (by omega) a key (by omega)]
  unfold touchF
  by_cases hi : 0 ≤ atF key s 0
  · have hj : ¬ 0 ≤ atF key a 0 := fun e => hn ⟨hi, e⟩
    have hi2 := atF_bd key s hi
    have fr := frq_at f1 hi hi2
    have em := spec_l10More_ev (k := k) (by omega) (s.getD (atF key s 0).toNat (Ty.dflt tItem)).2.2 (by omega) (by omega)
    cases set
    · simp (disch := (first | assumption | omega)) only [if_pos, if_neg, if_t, if_f, not_true_eq_false, not_false_eq_true, Bool.false_eq_true, Bool.true_eq_false, eq_self, decide_true, decide_false, Bool.not_true, Bool.not_false, decide_eq_true_eq, Option.bind_some, Bool.not_eq_true', decide_eq_false_iff_not, hi, hj, em, tchF]
    · simp (disch := (first | assumption | omega)) only [if_pos, if_neg, if_t, if_f, not_true_eq_false, not_false_eq_true, Bool.false_eq_true, Bool.true_eq_false, eq_self, decide_true, decide_false, Bool.not_true, Bool.not_false, decide_eq_true_eq, Option.bind_some, Bool.not_eq_true', decide_eq_false_iff_not, hi, hj, em, tchF]
  · by_cases hj : 0 ≤ atF key a 0
    · have hj2 := atF_bd key a hj
      have fr := frq_at f2 hj hj2
      have em := spec_l10More_ev (k := k) (by omega) (a.getD (atF key a 0).toNat (Ty.dflt tItem)).2.2 (by omega) (by omega)
      cases set
      · simp (disch := (first | assumption | omega)) only [if_pos, if_neg, if_t, if_f, not_true_eq_false, not_false_eq_true, Bool.false_eq_true, Bool.true_eq_false, eq_self, decide_true, decide_false, Bool.not_true, Bool.not_false, decide_eq_true_eq, Option.bind_some, Bool.not_eq_true', decide_eq_false_iff_not, hi, hj, em, tchF]
      · simp (disch := (first | assumption | omega)) only [if_pos, if_neg, if_t, if_f, not_true_eq_false, not_false_eq_true, Bool.false_eq_true, Bool.true_eq_false, eq_self, decide_true, decide_false, Bool.not_true, Bool.not_false, decide_eq_true_eq, Option.bind_some, Bool.not_eq_true', decide_eq_false_iff_not, hi, hj, em, tchF]
    · simp (disch := (first | assumption | omega)) only [if_pos, if_neg, if_t, if_f, not_true_eq_false, not_false_eq_true, Bool.false_eq_true, Bool.true_eq_false, eq_self, decide_true, decide_false, Bool.not_true, Bool.not_false, decide_eq_true_eq, Option.bind_some, Bool.not_eq_true', decide_eq_false_iff_not, hi, hj]
end Go.Proofs.Ytgnnljpdcafdkaa.Ev

/- What a right cache is; what is put out of it. -/
namespace Go.Proofs.Ytgnnljpdcafdkaa.Ev
open Go
set_option linter.unusedVariables false

theorem at_app1 (key : ByteArray) : ∀ (p l : List Itm) (i : Int), key ∈ p.map (fun x => x.1) → atF key (p ++ l) i = atF key p i
  | [], l, i, h => by simp at h
  | x :: p, l, i, h => by
    simp only [List.cons_append, atF]
    by_cases e : x.1 = key
    · rw [if_pos e, if_pos e]
    · have e' : ¬ key = x.1 := fun q => e q.symm
      simp only [List.map_cons, List.mem_cons, e', false_or] at h
      rw [if_neg e, if_neg e, at_app1 key p l _ h]
theorem at_app2 (key : ByteArray) : ∀ (p l : List Itm) (i : Int), key ∉ p.map (fun x => x.1) → atF key (p ++ l) i = atF key l (i + p.length)
  | [], l, i, h => by simp
  | x :: p, l, i, h => by
    simp only [List.map_cons, List.mem_cons, not_or] at h
    simp only [List.cons_append, atF]
    rw [if_neg (fun q => h.1 q.symm), at_app2 key p l _ h.2]
    simp only [List.length_cons]
    congr 1; omega
theorem at_lt (key : ByteArray) : ∀ (l : List Itm) (i : Int), key ∈ l.map (fun x => x.1) → i ≤ atF key l i ∧ atF key l i < i + l.length
  | [], i, h => by simp at h
  | x :: l, i, h => by
    simp only [atF]
    by_cases e : x.1 = key
    · rw [if_pos e]; simp only [List.length_cons]; omega
    · have e' : ¬ key = x.1 := fun q => e q.symm
      simp only [List.map_cons, List.mem_cons, e', false_or] at h
      have := at_lt key l (i + 1) h
      rw [if_neg e]; simp only [List.length_cons]; omega
theorem at_out (key : ByteArray) : ∀ (l : List Itm) (i : Int), key ∉ l.map (fun x => x.1) → atF key l i = -1
  | [], i, h => rfl
  | x :: l, i, h => by
    simp only [List.map_cons, List.mem_cons, not_or] at h
    simp only [atF]
    rw [if_neg (fun q => h.1 q.symm), at_out key l _ h.2]
theorem at_mem {key : ByteArray} {l : List Itm} (h : 0 ≤ atF key l 0) : key ∈ l.map (fun x => x.1) := by
  apply Classical.byContradiction; intro q; rw [at_out key l 0 q] at h; omega

theorem itF_iff : ∀ (r p : List Itm), itF (p ++ r) r (p.length : Int) = true ↔ (∀ x ∈ r, IOk x = true) ∧ (r.map (fun x => x.1)).Nodup ∧ ∀ x ∈ r, x.1 ∉ p.map (fun x => x.1)
  | [], p => by simp [itF]
  | x :: r, p => by
    have ih := itF_iff r (p ++ [x])
    have e1 : ((p ++ [x]).length : Int) = (p.length : Int) + 1 := by simp
    have e2 : p ++ [x] ++ r = p ++ x :: r := by simp
    rw [e1, e2] at ih
    unfold itF
    rw [Bool.and_eq_true, Bool.and_eq_true, decide_eq_true_eq, ih]
    have e3 : atF x.1 (p ++ x :: r) 0 = (p.length : Int) ↔ x.1 ∉ p.map (fun x => x.1) := by
      by_cases h : x.1 ∈ p.map (fun x => x.1)
      · have := at_lt x.1 p 0 h
        rw [at_app1 _ _ _ _ h]
        exact ⟨fun q => by omega, fun q => absurd h q⟩
      · rw [at_app2 _ _ _ _ h]
        simp [atF, h]
    rw [e3]
    simp only [List.forall_mem_cons, List.map_cons, List.nodup_cons, List.map_append, List.map_nil, List.mem_append, List.mem_singleton, not_or]
    constructor
    · rintro ⟨⟨a, b⟩, c, d, f⟩
      refine ⟨⟨a, c⟩, ⟨?_, d⟩, b, fun y hy => (f y hy).1⟩
      intro q
      obtain ⟨y, hy, e⟩ := List.mem_map.1 q
      exact (f y hy).2 e
    · rintro ⟨⟨a, c⟩, ⟨q, d⟩, b, f⟩
      refine ⟨⟨a, b⟩, c, d, fun y hy => ⟨f y hy, fun e => q ?_⟩⟩
      exact List.mem_map.2 ⟨y, hy, e⟩
theorem itF_all (l : List Itm) : itF l l 0 = true ↔ (∀ x ∈ l, IOk x = true) ∧ (l.map (fun x => x.1)).Nodup := by
  have := itF_iff l []
  simpa using this
theorem iok_frq {x : Itm} (h : IOk x = true) : 0 ≤ x.2.2 ∧ x.2.2 ≤ 3 := by
  simp only [IOk, Bool.and_eq_true, decide_eq_true_eq] at h; omega
theorem iok_key {x : Itm} (h : IOk x = true) : x.1.size ≤ 20 := by
  simp only [IOk, Bool.and_eq_true, decide_eq_true_eq] at h; omega
theorem iok_zero {x : Itm} (h : IOk x = true) : IOk (x.1, x.2.1, 0) = true := by
  simp only [IOk, Bool.and_eq_true, decide_eq_true_eq] at h ⊢
  obtain ⟨⟨⟨⟨⟨⟨a, b⟩, c⟩, d⟩, e⟩, f⟩, g⟩ := h
  exact ⟨⟨⟨⟨⟨⟨a, b⟩, c⟩, d⟩, e⟩, by omega⟩, by omega⟩

structure TPr (t : Thr) : Prop where
  c1 : 1 ≤ t.1
  c2 : t.1 ≤ 60
  m1 : 1 ≤ t.2.1
  m2 : t.2.1 ≤ t.1
  gl : (t.2.2.2.2.length : Int) ≤ ghosts t.1 t.2.1
  ln : ((t.2.2.1.length + t.2.2.2.1.length : Nat) : Int) ≤ t.1
  gh : ghF t.2.2.2.2 t.2.2.2.2 0 = true
  it : ∀ x ∈ t.2.2.1 ++ t.2.2.2.1, IOk x = true
  nd : ((t.2.2.1 ++ t.2.2.2.1).map (fun x => x.1)).Nodup
theorem tok_iff (t : Thr) : TOk t = true ↔ TPr t := by
  simp only [TOk, Bool.and_eq_true, decide_eq_true_eq, itF_all]
  constructor
  · rintro ⟨⟨⟨⟨⟨⟨a, b⟩, c, d⟩, e⟩, f⟩, g⟩, h, i⟩; exact ⟨a, b, c, d, e, f, g, h, i⟩
  · rintro ⟨a, b, c, d, e, f, g, h, i⟩; exact ⟨⟨⟨⟨⟨⟨a, b⟩, c, d⟩, e⟩, f⟩, g⟩, h, i⟩
theorem ghosts_le {c m : Int} (h1 : c ≤ 60) (h2 : 1 ≤ m) : ghosts c m ≤ 60 := by unfold ghosts; split <;> omega
namespace TPr
theorem sl {t : Thr} (h : TPr t) : t.2.2.1.length ≤ 60 := by have := h.ln; have := h.c2; omega
theorem al {t : Thr} (h : TPr t) : t.2.2.2.1.length ≤ 60 := by have := h.ln; have := h.c2; omega
theorem gl' {t : Thr} (h : TPr t) : t.2.2.2.2.length ≤ 60 := by have := h.gl; have := ghosts_le h.c2 h.m1; omega
theorem sm {t : Thr} (h : TPr t) : Sm t := ⟨by have := h.sl; omega, by have := h.al; omega, by have := h.gl'; omega⟩
theorem fs {t : Thr} (h : TPr t) : frq t.2.2.1 := fun x hx => iok_frq (h.it x (List.mem_append_left _ hx))
theorem fa {t : Thr} (h : TPr t) : frq t.2.2.2.1 := fun x hx => iok_frq (h.it x (List.mem_append_right _ hx))
theorem ks {t : Thr} (h : TPr t) : ∀ x ∈ t.2.2.1, x.1.size ≤ 20 := fun x hx => iok_key (h.it x (List.mem_append_left _ hx))
theorem one {t : Thr} (h : TPr t) (key : ByteArray) : ¬ (0 ≤ atF key t.2.2.1 0 ∧ 0 ≤ atF key t.2.2.2.1 0) := by
  rintro ⟨a, b⟩
  have n := h.nd
  rw [List.map_append] at n
  exact (List.nodup_append.1 n).2.2 _ (at_mem a) _ (at_mem b) rfl
end TPr

/-! ### what is put out -/
def hauntF (c m : Int) (g : List Int) (h : Int) : List Int := if ghosts c m < ((but h g ++ [h]).length : Int) then (but h g ++ [h]).drop 1 else but h g ++ [h]
def evS (c m : Int) (g : List Int) : List Itm → List Itm → Thr × ByteArray × Bool
  | [], a => ((c, m, [], a, g), (⟨#[]⟩ : ByteArray), false)
  | x :: s, a => if 1 < x.2.2 then evS c m g s (a ++ [(x.1, x.2.1, 0)]) else ((c, m, s, a, hauntF c m g (hash x.1)), x.1, true)
def evM (c m : Int) (s : List Itm) (g : List Int) : Nat → List Itm → Thr × ByteArray × Bool
  | 0, a => ((c, m, s, a, g), (⟨#[]⟩ : ByteArray), false)
  | n + 1, [] => ((c, m, s, [], g), (⟨#[]⟩ : ByteArray), false)
  | n + 1, x :: a => if x.2.2 = 0 then ((c, m, s, a, g), x.1, true) else evM c m s g n (a ++ [(x.1, x.2.1, x.2.2 - 1)])
def evF1 (t : Thr) : Thr × ByteArray × Bool :=
  if t.2.1 ≤ t.2.2.1.length ∨ t.2.2.2.1.length = 0 then
    if (evS t.1 t.2.1 t.2.2.2.2 t.2.2.1 t.2.2.2.1).2.2 = true then evS t.1 t.2.1 t.2.2.2.2 t.2.2.1 t.2.2.2.1
    else evM t.1 t.2.1 (evS t.1 t.2.1 t.2.2.2.2 t.2.2.1 t.2.2.2.1).1.2.2.1 (evS t.1 t.2.1 t.2.2.2.2 t.2.2.1 t.2.2.2.1).1.2.2.2.2 200 (evS t.1 t.2.1 t.2.2.2.2 t.2.2.1 t.2.2.2.1).1.2.2.2.1
  else evM t.1 t.2.1 t.2.2.1 t.2.2.2.2 200 t.2.2.2.1

theorem dr1 {α : Type} (l : List α) : (l.drop 1).take (l.length - 1) = l.drop 1 := by
  rw [List.take_of_length_le]; rw [List.length_drop]; omega
theorem app_len {α : Type} (l : List α) (x : α) : l.length + [x].length = l.length + 1 := rfl

theorem spec_l10Haunt_ev {k : Nat} (hk : 4294967298 ≤ k) (t : Thr) (h : Int) (p1 : -1000 ≤ t.1) (p2 : t.1 ≤ 1000) (p3 : -1000 ≤ t.2.1) (p4 : t.2.1 ≤ 1000) (hg : t.2.2.2.2.length ≤ 1048576) :
    asO Thr (evF cfg0 k 225 (t, h)) = some (t.1, t.2.1, t.2.2.1, t.2.2.2.1, hauntF t.1 t.2.1 t.2.2.2.2 h) := by
  obtain ⟨k, rfl, hk⟩ := exS hk
  obtain ⟨c, m, s, a, g⟩ := t
  simp only at p1 p2 p3 p4 hg
  have hb := but_len h g
  rw [spec_l10Haunt_eq, spec_l08But_ev (by omega) g h (by omega)]
  simp only [Option.bind_some]
  rw [spec_l10Ghosts_ev (by omega) (c, m, s, a, but h g ++ [h]) p1 p2 p3 p4]
  simp only [Option.bind_some, hauntF, app_len]
  have e2 : (but h g ++ [h]).length = (but h g).length + 1 := by simp
  rw [dr1]
  by_cases h1 : ghosts c m < ((but h g ++ [h]).length : Int)
  · simp (disch := (first | assumption | omega)) only [if_pos, if_neg, if_t, if_f, not_true_eq_false, not_false_eq_true, Bool.false_eq_true, Bool.true_eq_false, eq_self, decide_true, decide_false, Bool.not_true, Bool.not_false, decide_eq_true_eq, Option.bind_some, Bool.not_eq_true', decide_eq_false_iff_not, h1, lim_3, lim_4, lim_9, lim_78, lim_121, lim_128, lim_137]
  · simp (disch := (first | assumption | omega)) only [if_pos, if_neg, if_t, if_f, not_true_eq_false, not_false_eq_true, Bool.false_eq_true, Bool.true_eq_false, eq_self, decide_true, decide_false, Bool.not_true, Bool.not_false, decide_eq_true_eq, Option.bind_some, Bool.not_eq_true', decide_eq_false_iff_not, h1, lim_3, lim_4, lim_9, lim_78, lim_121, lim_128, lim_137]
theorem spec_EvictSmall_l0_ev {k : Nat} (hk : 4294967300 ≤ k + 1) (t : Thr) (p1 : -1000 ≤ t.1) (p2 : t.1 ≤ 1000) (p3 : -1000 ≤ t.2.1) (p4 : t.2.1 ≤ 1000) (hg : t.2.2.2.2.length ≤ 1048576) :
    ∀ (s a : List Itm) (m : Nat), s.length < m → s.length + a.length ≤ 4194304 → (∀ x ∈ s, x.1.size ≤ 20) → spec_EvictSmall_l0 k m t s a = some (evS t.1 t.2.1 t.2.2.2.2 s a) := by
  intro s
  induction s with
  | nil =>
    intro a m h1 h2 h3
    obtain ⟨m, rfl⟩ : ∃ j, m = j + 1 := ⟨m - 1, by omega⟩
    rw [spec_EvictSmall_l0_eq]
    simp (disch := (first | assumption | omega)) only [if_pos, if_neg, if_t, if_f, not_true_eq_false, not_false_eq_true, Bool.false_eq_true, Bool.true_eq_false, eq_self, decide_true, decide_false, Bool.not_true, Bool.not_false, decide_eq_true_eq, Option.bind_some, Bool.not_eq_true', decide_eq_false_iff_not, List.length_nil]
    rfl
  | cons x s ih =>
    intro a m h1 h2 h3
    simp only [List.length_cons] at h1 h2
    obtain ⟨m, rfl⟩ : ∃ j, m = j + 1 := ⟨m - 1, by omega⟩
    have hx := h3 x List.mem_cons_self
    rw [spec_EvictSmall_l0_eq, dr1]
    simp only [List.getD_cons_zero, List.drop_succ_cons, List.drop_zero, List.nil_append, List.length_cons, List.length_nil, evS]
    by_cases h4 : 1 < x.2.2
    · have h4' : ¬ x.2.2 ≤ 1 := by omega
      simp (disch := (first | assumption | omega)) only [if_pos, if_neg, if_t, if_f, not_true_eq_false, not_false_eq_true, Bool.false_eq_true, Bool.true_eq_false, eq_self, decide_true, decide_false, Bool.not_true, Bool.not_false, decide_eq_true_eq, Option.bind_some, Bool.not_eq_true', decide_eq_false_iff_not, h4, h4', lim_3, lim_4, lim_9, lim_78, lim_121, lim_128, lim_137]
      exact ih _ m (by omega) (by simp only [List.length_append, List.length_cons, List.length_nil]; omega) (fun y hy => h3 y (List.mem_cons_of_mem _ hy))
    · have h4' : x.2.2 ≤ 1 := by omega
      have e1 := spec_Hash_ev (k := k) (by omega) x.1 (by omega)
      have e2 := spec_l10Haunt_ev (k := k) (by omega) (t.1, t.2.1, s, a, t.2.2.2.2) (hash x.1) p1 p2 p3 p4 hg
      simp (disch := (first | assumption | omega)) only [if_pos, if_neg, if_t, if_f, not_true_eq_false, not_false_eq_true, Bool.false_eq_true, Bool.true_eq_false, eq_self, decide_true, decide_false, Bool.not_true, Bool.not_false, decide_eq_true_eq, Option.bind_some, Bool.not_eq_true', decide_eq_false_iff_not, h4, h4', lim_3, lim_4, lim_9, lim_78, lim_121, lim_128, lim_137, e1]
      rw [e2]
      rfl
theorem impl_Three_evictSmall_l0_ev {k : Nat} (hk : 4294967300 ≤ k + 1) (c mo : Int) (g : List Int) (p1 : -1000 ≤ c) (p2 : c ≤ 1000) (p3 : -1000 ≤ mo) (p4 : mo ≤ 1000) (hg : g.length ≤ 1048576) :
    ∀ (s a : List Itm) (m : Nat), s.length < m → s.length + a.length ≤ 4194304 → (∀ x ∈ s, x.1.size ≤ 20) → impl_Three_evictSmall_l0 k m c mo g s a = some ((evS c mo g s a).2, (evS c mo g s a).1) := by
  intro s
  induction s with
  | nil =>
    intro a m h1 h2 h3
    obtain ⟨m, rfl⟩ : ∃ j, m = j + 1 := ⟨m - 1, by omega⟩
    rw [impl_Three_evictSmall_l0_eq]
    simp (disch := (first | assumption | omega)) only [if_pos, if_neg, if_t, if_f, not_true_eq_false, not_false_eq_true, Bool.false_eq_true, Bool.true_eq_false, eq_self, decide_true, decide_false, Bool.not_true, Bool.not_false, decide_eq_true_eq, Option.bind_some, Bool.not_eq_true', decide_eq_false_iff_not, List.length_nil]
    rfl
  | cons x s ih =>
    intro a m h1 h2 h3
    simp only [List.length_cons] at h1 h2
    obtain ⟨m, rfl⟩ : ∃ j, m = j + 1 := ⟨m - 1, by omega⟩
    have hx := h3 x List.mem_cons_self
    rw [impl_Three_evictSmall_l0_eq, dr1]
    simp only [List.getD_cons_zero, List.drop_succ_cons, List.drop_zero, List.nil_append, List.length_cons, List.length_nil, evS]
    by_cases h4 : 1 < x.2.2
    · simp (disch := (first | assumption | omega)) only [if_pos, if_neg, if_t, if_f, not_true_eq_false, not_false_eq_true, Bool.false_eq_true, Bool.true_eq_false, eq_self, decide_true, decide_false, Bool.not_true, Bool.not_false, decide_eq_true_eq, Option.bind_some, Bool.not_eq_true', decide_eq_false_iff_not, h4, lim_3, lim_4, lim_9, lim_78, lim_121, lim_128, lim_137]
      exact ih _ m (by omega) (by simp only [List.length_append, List.length_cons, List.length_nil]; omega) (fun y hy => h3 y (List.mem_cons_of_mem _ hy))
    · have hb := but_len (hash x.1) g
      have e1 := impl_Hash_ev (k := k) (by omega) x.1 (by omega)
      have e2 := slices_DeleteFunc__int_int_impl_Three_evictSmall_1_ev (k := k) (by omega) g (hash x.1) (by omega)
      have e3 := impl_Three_ghosts_ev (k := k) (by omega) (c, mo, s, a, but (hash x.1) g ++ [hash x.1]) p1 p2 p3 p4
      have e4 : (but (hash x.1) g ++ [hash x.1]).length = (but (hash x.1) g).length + 1 := by simp
      simp (disch := (first | assumption | omega)) only [if_pos, if_neg, if_t, if_f, not_true_eq_false, not_false_eq_true, Bool.false_eq_true, Bool.true_eq_false, eq_self, decide_true, decide_false, Bool.not_true, Bool.not_false, decide_eq_true_eq, Option.bind_some, Bool.not_eq_true', decide_eq_false_iff_not, h4, lim_3, lim_4, lim_9, lim_78, lim_121, lim_128, lim_137, e1, e2]
      rw [e3, dr1]
      simp only [Option.bind_some, hauntF]
      by_cases h5 : ghosts c mo < ((but (hash x.1) g ++ [hash x.1]).length : Int)
      · simp (disch := (first | assumption | omega)) only [if_pos, if_neg, if_t, if_f, not_true_eq_false, not_false_eq_true, Bool.false_eq_true, Bool.true_eq_false, eq_self, decide_true, decide_false, Bool.not_true, Bool.not_false, decide_eq_true_eq, Option.bind_some, Bool.not_eq_true', decide_eq_false_iff_not, h5]
      · simp (disch := (first | assumption | omega)) only [if_pos, if_neg, if_t, if_f, not_true_eq_false, not_false_eq_true, Bool.false_eq_true, Bool.true_eq_false, eq_self, decide_true, decide_false, Bool.not_true, Bool.not_false, decide_eq_true_eq, Option.bind_some, Bool.not_eq_true', decide_eq_false_iff_not, h5]
theorem spec_EvictSmall_ev {k : Nat} (hk : 4294967300 ≤ k) (t : Thr) (h : TPr t) : asO (Thr × ByteArray × Bool) (evF cfg0 k 214 t) = some (evS t.1 t.2.1 t.2.2.2.2 t.2.2.1 t.2.2.2.1) := by
  obtain ⟨k, rfl, hk'⟩ := exS hk
  have e1 := spec_ThreeOk_ev (k := k) (by omega) t h.sm
  have e2 := spec_l10Copy_ev (k := k) (by omega) t (by have := h.sl; omega) (by have := h.al; omega) (by have := h.gl'; omega)
  have e0 : TOk t = true := (tok_iff t).2 h
  have e3 := spec_EvictSmall_l0_ev (k := k) hk t (by have := h.c1; omega) (by have := h.c2; omega) (by have := h.m1; omega) (by have := h.m2; have := h.c2; omega) (by have := h.gl'; omega) t.2.2.1 t.2.2.2.1 k (by have := h.sl; omega) (by have := h.sl; have := h.al; omega) h.ks
  obtain ⟨c, m, s, a, g⟩ := t
  rw [spec_EvictSmall_eq, e1, e0]
  simp only [Option.bind_some, Bool.not_true, Bool.false_eq_true, if_false]
  rw [e2]
  simp only [Option.bind_some]
  exact e3
theorem impl_Three_evictSmall_ev {k : Nat} (hk : 4294967300 ≤ k) (t : Thr) (h : TPr t) : asO ((ByteArray × Bool) × Thr) (evF cfg0 k 216 t) = some ((evS t.1 t.2.1 t.2.2.2.2 t.2.2.1 t.2.2.2.1).2, (evS t.1 t.2.1 t.2.2.2.2 t.2.2.1 t.2.2.2.1).1) := by
  obtain ⟨k, rfl, hk'⟩ := exS hk
  have e3 := impl_Three_evictSmall_l0_ev (k := k) hk t.1 t.2.1 t.2.2.2.2 (by have := h.c1; omega) (by have := h.c2; omega) (by have := h.m1; omega) (by have := h.m2; have := h.c2; omega) (by have := h.gl'; omega) t.2.2.1 t.2.2.2.1 k (by have := h.sl; omega) (by have := h.sl; have := h.al; omega) h.ks
  obtain ⟨c, m, s, a, g⟩ := t
  rw [impl_Three_evictSmall_eq]
  exact e3

/-! ### the main queue -/
def fr : List Itm → Nat
  | [] => 0
  | x :: r => x.2.2.toNat + fr r
theorem fr_app : ∀ (a b : List Itm), fr (a ++ b) = fr a + fr b
  | [], b => by simp [fr]
  | x :: a, b => by simp only [List.cons_append, fr, fr_app a b]; omega
theorem fr_le : ∀ (a : List Itm), frq a → fr a ≤ 3 * a.length
  | [], h => by simp [fr]
  | x :: a, h => by
    have h1 := h x List.mem_cons_self
    have h2 := fr_le a (fun y hy => h y (List.mem_cons_of_mem _ hy))
    simp only [fr, List.length_cons]; omega
theorem frq_app {a b : List Itm} (h : frq a) (h' : frq b) : frq (a ++ b) := fun x hx => (List.mem_append.1 hx).elim (h x) (h' x)
theorem spec_evM_l0_ev {k : Nat} (c mo : Int) (s a0 : List Itm) (g : List Int) : ∀ (n m : Nat) (a : List Itm), fr a < n → n < m → a.length ≤ 4194304 → frq a → spec_EvictMain_l0 k m (c, mo, s, a0, g) a = some (evM c mo s g n a) := by
  intro n
  induction n with
  | zero => intro m a h1; omega
  | succ n ih =>
    intro m a h1 h2 h3 h4
    obtain ⟨m, rfl⟩ : ∃ j, m = j + 1 := ⟨m - 1, by omega⟩
    cases a with
    | nil =>
      rw [spec_EvictMain_l0_eq]
      simp (disch := (first | assumption | omega)) only [if_pos, if_neg, if_t, if_f, not_true_eq_false, not_false_eq_true, Bool.false_eq_true, Bool.true_eq_false, eq_self, decide_true, decide_false, Bool.not_true, Bool.not_false, decide_eq_true_eq, Option.bind_some, Bool.not_eq_true', decide_eq_false_iff_not, List.length_nil]
      rfl
    | cons x a =>
      simp only [List.length_cons] at h3
      simp only [fr] at h1
      have hx := h4 x List.mem_cons_self
      rw [spec_EvictMain_l0_eq, dr1]
      simp only [List.getD_cons_zero, List.drop_succ_cons, List.drop_zero, List.nil_append, List.length_cons, List.length_nil, evM]
      by_cases h5 : x.2.2 = 0
      · simp (disch := (first | assumption | omega)) only [if_pos, if_neg, if_t, if_f, not_true_eq_false, not_false_eq_true, Bool.false_eq_true, Bool.true_eq_false, eq_self, decide_true, decide_false, Bool.not_true, Bool.not_false, decide_eq_true_eq, Option.bind_some, Bool.not_eq_true', decide_eq_false_iff_not, h5, lim_3, lim_4, lim_9, lim_78, lim_121, lim_128, lim_137]
      · have e : IntKind.wrap .i64 (x.2.2 - 1) = x.2.2 - 1 := wrp (by omega) (by omega)
        simp (disch := (first | assumption | omega)) only [if_pos, if_neg, if_t, if_f, not_true_eq_false, not_false_eq_true, Bool.false_eq_true, Bool.true_eq_false, eq_self, decide_true, decide_false, Bool.not_true, Bool.not_false, decide_eq_true_eq, Option.bind_some, Bool.not_eq_true', decide_eq_false_iff_not, h5, lim_3, lim_4, lim_9, lim_78, lim_121, lim_128, lim_137, e]
        refine ih m (a ++ [(x.1, x.2.1, x.2.2 - 1)]) ?_ (by omega) (by simp only [List.length_append, List.length_cons, List.length_nil]; omega) ?_
        · rw [fr_app]; simp only [fr]; omega
        · refine frq_app (fun y hy => h4 y (List.mem_cons_of_mem _ hy)) (fun y hy => ?_)
          simp only [List.mem_singleton] at hy; subst hy; simp only; omega
theorem impl_evM_l0_ev {k : Nat} (c mo : Int) (s : List Itm) (g : List Int) : ∀ (n m : Nat) (a : List Itm), fr a < n → n < m → a.length ≤ 4194304 → frq a → impl_Three_evictMain_l0 k m c mo s g a = some ((evM c mo s g n a).2, (evM c mo s g n a).1) := by
  intro n
  induction n with
  | zero => intro m a h1; omega
  | succ n ih =>
    intro m a h1 h2 h3 h4
    obtain ⟨m, rfl⟩ : ∃ j, m = j + 1 := ⟨m - 1, by omega⟩
    cases a with
    | nil =>
      rw [impl_Three_evictMain_l0_eq]
      simp (disch := (first | assumption | omega)) only [if_pos, if_neg, if_t, if_f, not_true_eq_false, not_false_eq_true, Bool.false_eq_true, Bool.true_eq_false, eq_self, decide_true, decide_false, Bool.not_true, Bool.not_false, decide_eq_true_eq, Option.bind_some, Bool.not_eq_true', decide_eq_false_iff_not, List.length_nil]
      rfl
    | cons x a =>
      simp only [List.length_cons] at h3
      simp only [fr] at h1
      have hx := h4 x List.mem_cons_self
      rw [impl_Three_evictMain_l0_eq, dr1]
      simp only [List.getD_cons_zero, List.drop_succ_cons, List.drop_zero, List.nil_append, List.length_cons, List.length_nil, evM]
      by_cases h5 : x.2.2 = 0
      · simp (disch := (first | assumption | omega)) only [if_pos, if_neg, if_t, if_f, not_true_eq_false, not_false_eq_true, Bool.false_eq_true, Bool.true_eq_false, eq_self, decide_true, decide_false, Bool.not_true, Bool.not_false, decide_eq_true_eq, Option.bind_some, Bool.not_eq_true', decide_eq_false_iff_not, h5, lim_3, lim_4, lim_9, lim_78, lim_121, lim_128, lim_137]
      · have e : IntKind.wrap .i64 (x.2.2 - 1) = x.2.2 - 1 := wrp (by omega) (by omega)
        simp (disch := (first | assumption | omega)) only [if_pos, if_neg, if_t, if_f, not_true_eq_false, not_false_eq_true, Bool.false_eq_true, Bool.true_eq_false, eq_self, decide_true, decide_false, Bool.not_true, Bool.not_false, decide_eq_true_eq, Option.bind_some, Bool.not_eq_true', decide_eq_false_iff_not, h5, lim_3, lim_4, lim_9, lim_78, lim_121, lim_128, lim_137, e]
        refine ih m (a ++ [(x.1, x.2.1, x.2.2 - 1)]) ?_ (by omega) (by simp only [List.length_append, List.length_cons, List.length_nil]; omega) ?_
        · rw [fr_app]; simp only [fr]; omega
        · refine frq_app (fun y hy => h4 y (List.mem_cons_of_mem _ hy)) (fun y hy => ?_)
          simp only [List.mem_singleton] at hy; subst hy; simp only; omega
end Go.Proofs.Ytgnnljpdcafdkaa.Ev

/- Evict, Get, Put, Drop. -/
namespace Go.Proofs.Ytgnnljpdcafdkaa.Ev
open Go
set_option linter.unusedVariables false

theorem spec_EvictMain_ev {k : Nat} (hk : 4294967300 ≤ k) (t : Thr) (h : TPr t) : asO (Thr × ByteArray × Bool) (evF cfg0 k 215 t) = some (evM t.1 t.2.1 t.2.2.1 t.2.2.2.2 200 t.2.2.2.1) := by
  obtain ⟨k, rfl, hk'⟩ := exS hk
  have e1 := spec_ThreeOk_ev (k := k) (by omega) t h.sm
  have e2 := spec_l10Copy_ev (k := k) (by omega) t (by have := h.sl; omega) (by have := h.al; omega) (by have := h.gl'; omega)
  have e0 : TOk t = true := (tok_iff t).2 h
  have f1 := fr_le _ h.fa
  have e3 := spec_evM_l0_ev (k := k) t.1 t.2.1 t.2.2.1 t.2.2.2.1 t.2.2.2.2 200 k t.2.2.2.1 (by have := h.al; omega) (by omega) (by have := h.al; omega) h.fa
  obtain ⟨c, m, s, a, g⟩ := t
  rw [spec_EvictMain_eq, e1, e0]
  simp only [Option.bind_some, Bool.not_true, Bool.false_eq_true, if_false]
  rw [e2]
  simp only [Option.bind_some]
  exact e3
theorem impl_Three_evictMain_ev {k : Nat} (hk : 4294967297 ≤ k) (t : Thr) (h : TPr t) : asO ((ByteArray × Bool) × Thr) (evF cfg0 k 217 t) = some ((evM t.1 t.2.1 t.2.2.1 t.2.2.2.2 200 t.2.2.2.1).2, (evM t.1 t.2.1 t.2.2.1 t.2.2.2.2 200 t.2.2.2.1).1) := by
  obtain ⟨k, rfl, hk'⟩ := exS hk
  have f1 := fr_le _ h.fa
  have e3 := impl_evM_l0_ev (k := k) t.1 t.2.1 t.2.2.1 t.2.2.2.2 200 k t.2.2.2.1 (by have := h.al; omega) (by omega) (by have := h.al; omega) h.fa
  obtain ⟨c, m, s, a, g⟩ := t
  rw [impl_Three_evictMain_eq]
  exact e3

def zro (x : Itm) : Itm := (x.1, x.2.1, 0)
theorem evS_false {c m : Int} {g : List Int} : ∀ (s a : List Itm), (evS c m g s a).2.2 = false → evS c m g s a = ((c, m, [], a ++ s.map zro, g), (⟨#[]⟩ : ByteArray), false)
  | [], a, h => by simp [evS]
  | x :: s, a, h => by
    unfold evS at h ⊢
    by_cases e : 1 < x.2.2
    · rw [if_pos e] at h ⊢
      rw [evS_false s _ h]; simp [zro]
    · rw [if_neg e] at h; cases h
theorem haunt_len (c m : Int) (g : List Int) (h : Int) : (hauntF c m g h).length ≤ g.length + 1 := by
  have := but_len h g
  unfold hauntF
  split <;> simp <;> omega
theorem evS_true {c m : Int} {g : List Int} : ∀ (s a : List Itm), (evS c m g s a).2.2 = true → (evS c m g s a).1.1 = c ∧ (evS c m g s a).1.2.1 = m ∧ (evS c m g s a).1.2.2.1.length + (evS c m g s a).1.2.2.2.1.length + 1 = s.length + a.length ∧ (evS c m g s a).1.2.2.2.2.length ≤ g.length + 1
  | [], a, h => by simp [evS] at h
  | x :: s, a, h => by
    unfold evS at h ⊢
    by_cases e : 1 < x.2.2
    · rw [if_pos e] at h ⊢
      have := evS_true s _ h
      simp only [List.length_append, List.length_cons, List.length_nil] at this ⊢
      exact ⟨this.1, this.2.1, by omega, this.2.2.2⟩
    · rw [if_neg e]
      exact ⟨rfl, rfl, by simp only [List.length_cons]; omega, haunt_len _ _ _ _⟩
theorem evM_res {c m : Int} {s : List Itm} {g : List Int} : ∀ (n : Nat) (a : List Itm), fr a < n → frq a → a ≠ [] → (evM c m s g n a).1.1 = c ∧ (evM c m s g n a).1.2.1 = m ∧ (evM c m s g n a).1.2.2.1 = s ∧ (evM c m s g n a).1.2.2.2.1.length + 1 = a.length ∧ (evM c m s g n a).1.2.2.2.2 = g
  | 0, a, h, hf, h' => by omega
  | n + 1, [], h, hf, h' => absurd rfl h'
  | n + 1, x :: a, h, hf, h' => by
    simp only [fr] at h
    have hx := hf x List.mem_cons_self
    unfold evM
    by_cases e : x.2.2 = 0
    · rw [if_pos e]; exact ⟨rfl, rfl, rfl, by simp only [List.length_cons], rfl⟩
    · rw [if_neg e]
      have := evM_res (c := c) (m := m) (s := s) (g := g) n (a ++ [(x.1, x.2.1, x.2.2 - 1)]) (by rw [fr_app]; simp only [fr]; omega) (frq_app (fun y hy => hf y (List.mem_cons_of_mem _ hy)) (fun y hy => by simp only [List.mem_singleton] at hy; subst hy; simp only; omega)) (by simp)
      simp only [List.length_append, List.length_cons, List.length_nil] at this ⊢
      exact this
theorem moved {c m : Int} {s a : List Itm} {g : List Int} (h : TPr (c, m, s, a, g)) : TPr (c, m, [], a ++ s.map zro, g) := by
  refine ⟨h.c1, h.c2, h.m1, h.m2, h.gl, ?_, h.gh, ?_, ?_⟩
  · have := h.ln
    simp only [List.length_nil, List.length_append, List.length_map] at this ⊢; omega
  · intro x hx
    simp only [List.nil_append, List.mem_append, List.mem_map] at hx
    rcases hx with hx | ⟨y, hy, rfl⟩
    · exact h.it x (List.mem_append_right _ hx)
    · exact iok_zero (h.it y (List.mem_append_left _ hy))
  · have n := h.nd
    simp only [List.nil_append, List.map_append, List.map_map] at n ⊢
    have e : ((fun x : Itm => x.1) ∘ zro) = (fun x : Itm => x.1) := rfl
    rw [e]
    exact (List.perm_append_comm.nodup_iff).1 n
theorem ev1_false {t : Thr} (h : TPr t) (hs : (evS t.1 t.2.1 t.2.2.2.2 t.2.2.1 t.2.2.2.1).2.2 = false) : TPr (evS t.1 t.2.1 t.2.2.2.2 t.2.2.1 t.2.2.2.1).1 ∧ (evS t.1 t.2.1 t.2.2.2.2 t.2.2.1 t.2.2.2.1).1.1 = t.1 ∧ (evS t.1 t.2.1 t.2.2.2.2 t.2.2.1 t.2.2.2.1).1.2.1 = t.2.1 ∧ (evS t.1 t.2.1 t.2.2.2.2 t.2.2.1 t.2.2.2.1).1.2.2.1 = [] ∧ (evS t.1 t.2.1 t.2.2.2.2 t.2.2.1 t.2.2.2.1).1.2.2.2.1.length = t.2.2.1.length + t.2.2.2.1.length ∧ (evS t.1 t.2.1 t.2.2.2.2 t.2.2.1 t.2.2.2.1).1.2.2.2.2 = t.2.2.2.2 := by
  rw [evS_false _ _ hs]
  refine ⟨moved h, rfl, rfl, rfl, ?_, rfl⟩
  simp only [List.length_append, List.length_map]; omega
theorem ev1_res {t : Thr} (h : TPr t) (hn : 1 ≤ t.2.2.1.length + t.2.2.2.1.length) : (evF1 t).1.1 = t.1 ∧ (evF1 t).1.2.1 = t.2.1 ∧ (evF1 t).1.2.2.1.length + (evF1 t).1.2.2.2.1.length + 1 = t.2.2.1.length + t.2.2.2.1.length ∧ (evF1 t).1.2.2.2.2.length ≤ 61 := by
  have g1 := h.gl'
  unfold evF1
  by_cases h1 : t.2.1 ≤ t.2.2.1.length ∨ t.2.2.2.1.length = 0
  · rw [if_pos h1]
    by_cases h2 : (evS t.1 t.2.1 t.2.2.2.2 t.2.2.1 t.2.2.2.1).2.2 = true
    · rw [if_pos h2]
      have := evS_true _ _ h2
      exact ⟨this.1, this.2.1, this.2.2.1, by omega⟩
    · rw [if_neg h2]
      have h3 := ev1_false h (by simpa using h2)
      have f1 := fr_le _ h3.1.fa
      have := evM_res (c := t.1) (m := t.2.1) (s := (evS t.1 t.2.1 t.2.2.2.2 t.2.2.1 t.2.2.2.1).1.2.2.1) (g := (evS t.1 t.2.1 t.2.2.2.2 t.2.2.1 t.2.2.2.1).1.2.2.2.2) 200 _ (by have := h3.1.al; omega) h3.1.fa (by intro q; rw [q] at h3; have := h3.2.2.2.2.1; simp only [List.length_nil] at this; omega)
      refine ⟨this.1, this.2.1, ?_, ?_⟩
      · have l1 := congrArg List.length this.2.2.1
        have l3 := congrArg List.length h3.2.2.2.1
        simp only [List.length_nil] at l3
        have l4 := h3.2.2.2.2.1
        have l5 := this.2.2.2.1
        omega
      · rw [this.2.2.2.2, h3.2.2.2.2.2]; omega
  · rw [if_neg h1]
    have f1 := fr_le _ h.fa
    have h2 : t.2.2.2.1 ≠ [] := by intro q; rw [q] at h1; simp at h1
    have := evM_res (c := t.1) (m := t.2.1) (s := t.2.2.1) (g := t.2.2.2.2) 200 _ (by have := h.al; omega) h.fa h2
    refine ⟨this.1, this.2.1, ?_, ?_⟩
    · rw [this.2.2.1]; omega
    · rw [this.2.2.2.2]; omega

theorem prT {α β : Type} {r : α × β × Bool} (h : r.2.2 = true) : (r.1, r.2.1, true) = r := by rw [← h]
theorem prT2 {α β : Type} {r : α × β × Bool} (h : r.2.2 = true) : ((r.2.1, true), r.1) = (r.2, r.1) := by rw [← h]

theorem spec_Evict_ev {k : Nat} (hk : 4294967301 ≤ k) (t : Thr) (h : TPr t) : asO (Thr × ByteArray × Bool) (evF cfg0 k 186 t) = some (evF1 t) := by
  obtain ⟨k, rfl, hk'⟩ := exS hk
  have e1 := spec_ThreeOk_ev (k := k) (by omega) t h.sm
  have e0 : TOk t = true := (tok_iff t).2 h
  have e2 := spec_EvictSmall_ev (k := k) (by omega) t h
  have e3 := spec_EvictMain_ev (k := k) (by omega) t h
  have e4 : (evS t.1 t.2.1 t.2.2.2.2 t.2.2.1 t.2.2.2.1).2.2 = false → asO (Thr × ByteArray × Bool) (evF cfg0 k 215 (evS t.1 t.2.1 t.2.2.2.2 t.2.2.1 t.2.2.2.1).1) = some (evM t.1 t.2.1 (evS t.1 t.2.1 t.2.2.2.2 t.2.2.1 t.2.2.2.1).1.2.2.1 (evS t.1 t.2.1 t.2.2.2.2 t.2.2.1 t.2.2.2.1).1.2.2.2.2 200 (evS t.1 t.2.1 t.2.2.2.2 t.2.2.1 t.2.2.2.1).1.2.2.2.1) := by
    intro hf
    have h3 := ev1_false h hf
    have := spec_EvictMain_ev (k := k) (by omega) _ h3.1
    rw [h3.2.1, h3.2.2.1] at this
    exact this
  unfold evF1
  obtain ⟨c, m, s, a, g⟩ := t
  simp only at e1 e0 e2 e3 e4 ⊢
  rw [spec_Evict_eq, e1, e0, e2]
  simp only [Option.bind_some, Bool.not_true, Bool.false_eq_true, if_false, decide_eq_true_eq]
  generalize evS c m g s a = r at e4 ⊢
  have hb : r.2.2 = true ∨ r.2.2 = false := by cases r.2.2 <;> simp
  by_cases h1 : m ≤ s.length
  · rw [if_pos h1, if_pos (Or.inl h1)]
    rcases hb with hr | hr
    · rw [if_pos hr, if_pos hr, prT hr]
    · rw [if_neg (by rw [hr]; simp), if_neg (by rw [hr]; simp), e4 hr]; rfl
  · rw [if_neg h1]
    by_cases h2 : a.length = 0
    · have h2' : (a.length : Int) = 0 := by omega
      rw [if_pos h2', if_pos (Or.inr h2)]
      rcases hb with hr | hr
      · rw [if_pos hr, if_pos hr, prT hr]
      · rw [if_neg (by rw [hr]; simp), if_neg (by rw [hr]; simp), e4 hr]; rfl
    · have h2' : ¬ (a.length : Int) = 0 := by omega
      rw [if_neg h2', if_neg (by simp only [h1, h2, or_self, not_false_eq_true]), e3]; rfl
theorem impl_Three_evict_ev {k : Nat} (hk : 4294967301 ≤ k) (t : Thr) (h : TPr t) : asO ((ByteArray × Bool) × Thr) (evF cfg0 k 191 t) = some ((evF1 t).2, (evF1 t).1) := by
  obtain ⟨k, rfl, hk'⟩ := exS hk
  have e2 := impl_Three_evictSmall_ev (k := k) (by omega) t h
  have e3 := impl_Three_evictMain_ev (k := k) (by omega) t h
  have e4 : (evS t.1 t.2.1 t.2.2.2.2 t.2.2.1 t.2.2.2.1).2.2 = false → asO ((ByteArray × Bool) × Thr) (evF cfg0 k 217 (evS t.1 t.2.1 t.2.2.2.2 t.2.2.1 t.2.2.2.1).1) = some ((evM t.1 t.2.1 (evS t.1 t.2.1 t.2.2.2.2 t.2.2.1 t.2.2.2.1).1.2.2.1 (evS t.1 t.2.1 t.2.2.2.2 t.2.2.1 t.2.2.2.1).1.2.2.2.2 200 (evS t.1 t.2.1 t.2.2.2.2 t.2.2.1 t.2.2.2.1).1.2.2.2.1).2, (evM t.1 t.2.1 (evS t.1 t.2.1 t.2.2.2.2 t.2.2.1 t.2.2.2.1).1.2.2.1 (evS t.1 t.2.1 t.2.2.2.2 t.2.2.1 t.2.2.2.1).1.2.2.2.2 200 (evS t.1 t.2.1 t.2.2.2.2 t.2.2.1 t.2.2.2.1).1.2.2.2.1).1) := by
    intro hf
    have h3 := ev1_false h hf
    have := impl_Three_evictMain_ev (k := k) (by omega) _ h3.1
    rw [h3.2.1, h3.2.2.1] at this
    exact this
  unfold evF1
  obtain ⟨c, m, s, a, g⟩ := t
  simp only at e2 e3 e4 ⊢
  rw [impl_Three_evict_eq, e2]
  simp only [Option.bind_some, decide_eq_true_eq]
  generalize evS c m g s a = r at e4 ⊢
  have hb : r.2.2 = true ∨ r.2.2 = false := by cases r.2.2 <;> simp
  by_cases h1 : m ≤ s.length
  · rw [if_pos h1, if_pos (Or.inl h1)]
    rcases hb with hr | hr
    · rw [if_pos hr, if_pos hr, prT2 hr]
    · rw [if_neg (by rw [hr]; simp), if_neg (by rw [hr]; simp), e4 hr]; rfl
  · rw [if_neg h1]
    by_cases h2 : a.length = 0
    · have h2' : (a.length : Int) = 0 := by omega
      rw [if_pos h2', if_pos (Or.inr h2)]
      rcases hb with hr | hr
      · rw [if_pos hr, if_pos hr, prT2 hr]
      · rw [if_neg (by rw [hr]; simp), if_neg (by rw [hr]; simp), e4 hr]; rfl
    · have h2' : ¬ (a.length : Int) = 0 := by omega
      rw [if_neg h2', if_neg (by simp only [h1, h2, or_self, not_false_eq_true]), e3]; rfl
end Go.Proofs.Ytgnnljpdcafdkaa.Ev

/- Get, Put, Drop, and what does them. -/
namespace Go.Proofs.Ytgnnljpdcafdkaa.Ev
open Go
set_option linter.unusedVariables false

abbrev thr0 : Thr := (0, 0, [], [], [])
def getF (t : Thr) (key : ByteArray) : Thr × ByteArray × Bool := if TOk t = true then touchF t key false (⟨#[]⟩ : ByteArray) else (thr0, (⟨#[]⟩ : ByteArray), false)
theorem spec_Get_ev {k : Nat} (hk : 4294967300 ≤ k) (t : Thr) (key : ByteArray) (hs : Sm t) : asO (Thr × ByteArray × Bool) (evF cfg0 k 157 (t, key)) = some (getF t key) := by
  obtain ⟨k, rfl, hk'⟩ := exS hk
  have e1 := spec_ThreeOk_ev (k := k) (by omega) t hs
  have e2 := spec_l10Copy_ev (k := k) (by omega) t (by have := hs.1; omega) (by have := hs.2.1; omega) (by have := hs.2.2; omega)
  have e3 : TPr t → asO (Thr × ByteArray × Bool) (evF cfg0 k 185 (t, key, false, (⟨#[]⟩ : ByteArray))) = some (touchF t key false (⟨#[]⟩ : ByteArray)) := fun h => spec_l10Touch_ev (by omega) t key false (⟨#[]⟩ : ByteArray) hs.1 hs.2.1 h.fs h.fa (h.one key)
  unfold getF
  obtain ⟨c, m, s, a, g⟩ := t
  rw [spec_Get_eq, e1]
  simp only [Option.bind_some]
  by_cases h : TOk (c, m, s, a, g) = true
  · rw [h, if_pos rfl]
    simp only [Bool.not_true, Bool.false_eq_true, if_false]
    rw [e2]; simp only [Option.bind_some]
    rw [e3 ((tok_iff _).1 h)]; rfl
  · rw [if_neg h, if_pos (by simpa using h)]
theorem getD_set {α : Type} {l : List α} {i : Nat} {v d : α} (h : i < l.length) : (l.set i v).getD i d = v := by simp [List.getD, h]
theorem min3 {n : Int} (h1 : 0 ≤ n) (h2 : n ≤ 3) : (if IntKind.wrap .i64 (n + 1) < 3 then IntKind.wrap .i64 (n + 1) else 3) = moreF n := by
  rw [wrp (by omega) (by omega), moreF]
  split <;> split <;> omega
theorem impl_Get_ev {k : Nat} (hk : 4294967302 ≤ k) (t : Thr) (key : ByteArray) (hs : Sm t) : asO (Thr × ByteArray × Bool) (evF cfg0 k 162 (t, key)) = some (getF t key) := by
  obtain ⟨k, rfl, hk'⟩ := exS hk
  have e1 := impl_ThreeOk_ev (k := k) (by omega) t hs
  have e2 := impl_copyThree_ev (k := k) (by omega) t (by have := hs.1; omega) (by have := hs.2.1; omega) (by have := hs.2.2; omega)
  have hs1 := hs.1
  have hs2 := hs.2.1
  have e3 := impl_itemAt_ev (k := k) (by omega) t.2.2.1 key (by omega)
  have e4 := impl_itemAt_ev (k := k) (by omega) t.2.2.2.1 key (by omega)
  unfold getF
  obtain ⟨c, m, s, a, g⟩ := t
  rw [impl_Get_eq, e1]
  simp only [Option.bind_some]
  by_cases h : TOk (c, m, s, a, g) = true
  · have hp := (tok_iff _).1 h
    rw [h, if_pos rfl]
    simp only [Bool.not_true, Bool.false_eq_true, if_false]
    rw [e2]; simp only [Option.bind_some]
    rw [e3]; simp only [Option.bind_some]
    unfold touchF
    by_cases hi : 0 ≤ atF key s 0
    · have hi2 := atF_bd key s hi
      have fr := frq_at hp.fs hi hi2
      rw [min3 fr.1 fr.2, getD_set (by omega)]
      simp (disch := (first | assumption | omega)) only [if_pos, if_neg, if_t, if_f, not_true_eq_false, not_false_eq_true, Bool.false_eq_true, Bool.true_eq_false, eq_self, decide_true, decide_false, Bool.not_true, Bool.not_false, decide_eq_true_eq, Option.bind_some, Bool.not_eq_true', decide_eq_false_iff_not, hi, tchF]
    · rw [e4]; simp only [Option.bind_some]
      by_cases hj : 0 ≤ atF key a 0
      · have hj2 := atF_bd key a hj
        have fr := frq_at hp.fa hj hj2
        rw [min3 (n := (a.getD (atF key a 0).toNat (Ty.dflt tItem)).2.2) fr.1 fr.2, getD_set (l := a) (by omega)]
        simp (disch := (first | assumption | omega)) only [if_pos, if_neg, if_t, if_f, not_true_eq_false, not_false_eq_true, Bool.false_eq_true, Bool.true_eq_false, eq_self, decide_true, decide_false, Bool.not_true, Bool.not_false, decide_eq_true_eq, Option.bind_some, Bool.not_eq_true', decide_eq_false_iff_not, hi, hj, tchF]
      · simp (disch := (first | assumption | omega)) only [if_pos, if_neg, if_t, if_f, not_true_eq_false, not_false_eq_true, Bool.false_eq_true, Bool.true_eq_false, eq_self, decide_true, decide_false, Bool.not_true, Bool.not_false, decide_eq_true_eq, Option.bind_some, Bool.not_eq_true', decide_eq_false_iff_not, hi, hj]
  · rw [if_neg h, if_pos (by simpa using h)]

/-! ### Drop -/
def dropF (t : Thr) (key : ByteArray) : Thr × Bool :=
  if TOk t = true then ((t.1, t.2.1, butI key t.2.2.1, butI key t.2.2.2.1, t.2.2.2.2), decide (((butI key t.2.2.1).length + (butI key t.2.2.2.1).length : Int) < (t.2.2.1.length + t.2.2.2.1.length : Int))) else (thr0, false)
theorem spec_Drop_ev {k : Nat} (hk : 4294967300 ≤ k) (t : Thr) (key : ByteArray) (hs : Sm t) : asO (Thr × Bool) (evF cfg0 k 159 (t, key)) = some (dropF t key) := by
  obtain ⟨k, rfl, hk'⟩ := exS hk
  have e1 := spec_ThreeOk_ev (k := k) (by omega) t hs
  have e2 := spec_l10Copy_ev (k := k) (by omega) t (by have := hs.1; omega) (by have := hs.2.1; omega) (by have := hs.2.2; omega)
  have hs1 := hs.1
  have hs2 := hs.2.1
  have e3 := spec_l10Without_ev (k := k) (by omega) t.2.2.1 key (by omega)
  have e4 := spec_l10Without_ev (k := k) (by omega) t.2.2.2.1 key (by omega)
  have l3 := butI_len key t.2.2.1
  have l4 := butI_len key t.2.2.2.1
  unfold dropF
  obtain ⟨c, m, s, a, g⟩ := t
  simp only at l3 l4 hs1 hs2
  rw [spec_Drop_eq, e1]
  simp only [Option.bind_some]
  by_cases h : TOk (c, m, s, a, g) = true
  · rw [h, if_pos rfl]
    simp only [Bool.not_true, Bool.false_eq_true, if_false]
    rw [e2]; simp only [Option.bind_some]
    rw [e3]; simp only [Option.bind_some]
    rw [e4]; simp only [Option.bind_some]
    rw [wrp (by omega) (by omega), wrp (by omega) (by omega)]
  · rw [if_neg h, if_pos (by simpa using h)]
theorem impl_Drop_ev {k : Nat} (hk : 4294967302 ≤ k) (t : Thr) (key : ByteArray) (hs : Sm t) : asO (Thr × Bool) (evF cfg0 k 164 (t, key)) = some (dropF t key) := by
  obtain ⟨k, rfl, hk'⟩ := exS hk
  have e1 := impl_ThreeOk_ev (k := k) (by omega) t hs
  have e2 := impl_copyThree_ev (k := k) (by omega) t (by have := hs.1; omega) (by have := hs.2.1; omega) (by have := hs.2.2; omega)
  have hs1 := hs.1
  have hs2 := hs.2.1
  have e3 := slices_DeleteFunc__impl_Item_impl_Item_ev (k := k) (by omega) t.2.2.1 key (by omega)
  have e4 := slices_DeleteFunc__impl_Item_impl_Item_ev (k := k) (by omega) t.2.2.2.1 key (by omega)
  have l3 := butI_len key t.2.2.1
  have l4 := butI_len key t.2.2.2.1
  unfold dropF
  obtain ⟨c, m, s, a, g⟩ := t
  simp only at l3 l4 hs1 hs2
  rw [impl_Drop_eq, e1]
  simp only [Option.bind_some]
  by_cases h : TOk (c, m, s, a, g) = true
  · rw [h, if_pos rfl]
    simp only [Bool.not_true, Bool.false_eq_true, if_false]
    rw [e2]; simp only [Option.bind_some]
    rw [e3]; simp only [Option.bind_some]
    rw [e4]; simp only [Option.bind_some]
    rw [wrp (by omega) (by omega), wrp (by omega) (by omega)]
  · rw [if_neg h, if_pos (by simpa using h)]

/-! ### Put -/
def addF (t : Thr) (key val : ByteArray) (gone : List ByteArray) : Thr × List ByteArray × Bool :=
  (if hash key ∈ t.2.2.2.2 then (t.1, t.2.1, t.2.2.1, t.2.2.2.1 ++ [(key, val, 0)], but (hash key) t.2.2.2.2) else (t.1, t.2.1, t.2.2.1 ++ [(key, val, 0)], t.2.2.2.1, t.2.2.2.2), gone, true)
def putF (t : Thr) (key val : ByteArray) : Thr × List ByteArray × Bool :=
  if TOk t = true then if IOk (key, val, 0) = true then
    if (touchF t key true val).2.2 = true then ((touchF t key true val).1, [], true)
    else if ((t.2.2.1.length : Int) + t.2.2.2.1.length) < t.1 then addF t key val []
    else addF (evF1 t).1 key val [(evF1 t).2.1]
  else (thr0, [], false) else (thr0, [], false)
theorem spec_add_ev {k : Nat} (hk : 4294967302 ≤ k + 1) (key val : ByteArray) (hkey : key.size ≤ 20) (t : Thr) (gone : List ByteArray) (m : Nat) (h1 : t.2.2.1.length ≤ 1048577) (h2 : t.2.2.2.1.length ≤ 1048577) (h3 : t.2.2.2.2.length ≤ 1048577) (hc : (t.2.2.1.length : Int) + t.2.2.2.1.length < t.1) :
    spec_Put_l0 k (m + 1) key val t.1 t.2.1 gone t.2.2.1 t.2.2.2.1 t.2.2.2.2 = some (addF t key val gone) := by
  have e1 := spec_Hash_ev (k := k) (by omega) key (by omega)
  have e2 := spec_l03Has_ev (k := k) (by omega) t.2.2.2.2 (hash key) (by omega)
  have e3 := spec_l08But_ev (k := k) (by omega) t.2.2.2.2 (hash key) (by omega)
  rw [spec_Put_l0_eq, wrp (by omega) (by omega)]
  simp only [app_len]
  unfold addF
  by_cases h : hash key ∈ t.2.2.2.2
  · have : ¬ t.1 ≤ (t.2.2.1.length : Int) + t.2.2.2.1.length := by omega
    simp (disch := (first | assumption | omega)) only [if_pos, if_neg, if_t, if_f, not_true_eq_false, not_false_eq_true, Bool.false_eq_true, Bool.true_eq_false, eq_self, decide_true, decide_false, Bool.not_true, Bool.not_false, decide_eq_true_eq, Option.bind_some, Bool.not_eq_true', decide_eq_false_iff_not, this, e1, e2, e3, h, lim_3, lim_4, lim_9, lim_78, lim_121, lim_128, lim_137]
  · have : ¬ t.1 ≤ (t.2.2.1.length : Int) + t.2.2.2.1.length := by omega
    simp (disch := (first | assumption | omega)) only [if_pos, if_neg, if_t, if_f, not_true_eq_false, not_false_eq_true, Bool.false_eq_true, Bool.true_eq_false, eq_self, decide_true, decide_false, Bool.not_true, Bool.not_false, decide_eq_true_eq, Option.bind_some, Bool.not_eq_true', decide_eq_false_iff_not, this, e1, e2, e3, h, lim_3, lim_4, lim_9, lim_78, lim_121, lim_128, lim_137]
theorem impl_add_ev {k : Nat} (hk : 4294967302 ≤ k + 1) (key val : ByteArray) (hkey : key.size ≤ 20) (t : Thr) (gone : List ByteArray) (m : Nat) (h1 : t.2.2.1.length ≤ 1048577) (h2 : t.2.2.2.1.length ≤ 1048577) (h3 : t.2.2.2.2.length ≤ 1048577) (hc : (t.2.2.1.length : Int) + t.2.2.2.1.length < t.1) :
    impl_Put_l0 k (m + 1) key val t.1 t.2.1 gone t.2.2.1 t.2.2.2.1 t.2.2.2.2 = some (addF t key val gone) := by
  have e1 := impl_Hash_ev (k := k) (by omega) key (by omega)
  have e2 := slices_Contains__int_int_ev (k := k) (by omega) t.2.2.2.2 (hash key) (by omega)
  have e3 := slices_DeleteFunc__int_int_impl_Put_1_ev (k := k) (by omega) t.2.2.2.2 (hash key) (by omega)
  have lb := but_len (hash key) t.2.2.2.2
  have e4 := impl_copyThree_ev (k := k) (by omega) (t.1, t.2.1, t.2.2.1, t.2.2.2.1 ++ [(key, val, 0)], but (hash key) t.2.2.2.2) (by simp only; omega) (by simp only [List.length_append, List.length_cons, List.length_nil]; omega) (by simp only; omega)
  have e5 := impl_copyThree_ev (k := k) (by omega) (t.1, t.2.1, t.2.2.1 ++ [(key, val, 0)], t.2.2.2.1, t.2.2.2.2) (by simp only [List.length_append, List.length_cons, List.length_nil]; omega) (by simp only; omega) (by simp only; omega)
  rw [impl_Put_l0_eq, wrp (by omega) (by omega)]
  simp only [app_len]
  unfold addF
  by_cases h : hash key ∈ t.2.2.2.2
  · have : ¬ t.1 ≤ (t.2.2.1.length : Int) + t.2.2.2.1.length := by omega
    simp (disch := (first | assumption | omega)) only [if_pos, if_neg, if_t, if_f, not_true_eq_false, not_false_eq_true, Bool.false_eq_true, Bool.true_eq_false, eq_self, decide_true, decide_false, Bool.not_true, Bool.not_false, decide_eq_true_eq, Option.bind_some, Bool.not_eq_true', decide_eq_false_iff_not, this, e1, e2, e3, h, lim_3, lim_4, lim_9, lim_78, lim_121, lim_128, lim_137]
    rw [e4]; rfl
  · have : ¬ t.1 ≤ (t.2.2.1.length : Int) + t.2.2.2.1.length := by omega
    simp (disch := (first | assumption | omega)) only [if_pos, if_neg, if_t, if_f, not_true_eq_false, not_false_eq_true, Bool.false_eq_true, Bool.true_eq_false, eq_self, decide_true, decide_false, Bool.not_true, Bool.not_false, decide_eq_true_eq, Option.bind_some, Bool.not_eq_true', decide_eq_false_iff_not, this, e1, e2, e3, h, lim_3, lim_4, lim_9, lim_78, lim_121, lim_128, lim_137]
    rw [e5]; rfl
theorem spec_Put_ev {k : Nat} (hk : 4294967302 ≤ k) (t : Thr) (key val : ByteArray) (hs : Sm t) : asO (Thr × List ByteArray × Bool) (evF cfg0 k 158 (t, key, val)) = some (putF t key val) := by
  obtain ⟨k, rfl, hk'⟩ := exS hk
  obtain ⟨k', rfl⟩ : ∃ j, k = j + 1 + 1 := ⟨k - 2, by omega⟩
  have e1 := spec_ThreeOk_ev (k := k' + 1 + 1) (by omega) t hs
  have e2 := spec_ItemOk_ev (k := k' + 1 + 1) (by omega) (key, val, 0)
  have e3 := spec_l10Copy_ev (k := k' + 1 + 1) (by omega) t (by have := hs.1; omega) (by have := hs.2.1; omega) (by have := hs.2.2; omega)
  have e4 : TPr t → asO (Thr × ByteArray × Bool) (evF cfg0 (k' + 1 + 1) 185 (t, key, true, val)) = some (touchF t key true val) := fun h => spec_l10Touch_ev (by omega) t key true val hs.1 hs.2.1 h.fs h.fa (h.one key)
  have e5 : TPr t → asO (Thr × ByteArray × Bool) (evF cfg0 (k' + 1 + 1) 186 t) = some (evF1 t) := fun h => spec_Evict_ev (by omega) t h
  have e6 : IOk (key, val, 0) = true → ∀ (t : Thr) (gone : List ByteArray) (m : Nat) (h1 : t.2.2.1.length ≤ 1048577) (h2 : t.2.2.2.1.length ≤ 1048577) (h3 : t.2.2.2.2.length ≤ 1048577) (hc : (t.2.2.1.length : Int) + t.2.2.2.1.length < t.1), _ := fun h => spec_add_ev (k := k' + 1 + 1) hk key val (iok_key h)
  unfold putF
  obtain ⟨c, m, s, a, g⟩ := t
  rw [spec_Put_eq, e1]
  simp only [Option.bind_some]
  by_cases h : TOk (c, m, s, a, g) = true
  · have hp := (tok_iff _).1 h
    rw [h, if_pos rfl]
    simp only [Bool.not_true, Bool.false_eq_true, if_false]
    rw [e2]; simp only [Option.bind_some]
    by_cases hI : IOk (key, val, 0) = true
    · rw [hI, if_pos rfl]
      simp only [Bool.not_true, Bool.false_eq_true, if_false]
      rw [e3]; simp only [Option.bind_some]
      rw [e4 hp]; simp only [Option.bind_some]
      by_cases ht : (touchF (c, m, s, a, g) key true val).2.2 = true
      · rw [if_pos ht, if_pos ht]
      · rw [if_neg ht, if_neg ht]
        have et : (touchF (c, m, s, a, g) key true val).1 = (c, m, s, a, g) := by
          unfold touchF at ht ⊢; split
          · next q => rw [if_pos q] at ht; exact absurd rfl ht
          · next q => rw [if_neg q] at ht; split
                      · next q' => rw [if_pos q'] at ht; exact absurd rfl ht
                      · rfl
        rw [et]
        by_cases hc : (s.length : Int) + a.length < c
        · rw [if_pos hc]
          exact e6 hI (c, m, s, a, g) [] _ (by have := hp.sl; omega) (by have := hp.al; omega) (by have := hp.gl'; omega) hc
        · rw [if_neg hc]
          have hsl := hp.sl
          have hal := hp.al
          have hc1 := hp.c1
          have hln := hp.ln
          simp only at hsl hal hc1 hln
          have hr := ev1_res hp (by simp only; omega)
          simp only at hr
          rw [spec_Put_l0_eq]
          simp only
          rw [wrp (by omega) (by omega)]
          have hc' : c ≤ (s.length : Int) + a.length := by omega
          simp only [List.length_nil, List.length_cons]
          simp (disch := (first | assumption | omega)) only [if_pos, if_neg, if_t, if_f, not_true_eq_false, not_false_eq_true, Bool.false_eq_true, Bool.true_eq_false, eq_self, decide_true, decide_false, Bool.not_true, Bool.not_false, decide_eq_true_eq, Option.bind_some, Bool.not_eq_true', decide_eq_false_iff_not, hc', lim_3, lim_4, lim_9, lim_78, lim_121, lim_128, lim_137]
          rw [e5 hp]
          simp (disch := (first | assumption | omega)) only [if_pos, if_neg, if_t, if_f, not_true_eq_false, not_false_eq_true, Bool.false_eq_true, Bool.true_eq_false, eq_self, decide_true, decide_false, Bool.not_true, Bool.not_false, decide_eq_true_eq, Option.bind_some, Bool.not_eq_true', decide_eq_false_iff_not, lim_3, lim_4, lim_9, lim_78, lim_121, lim_128, lim_137, List.nil_append]
          exact e6 hI (evF1 (c, m, s, a, g)).1 _ _ (by omega) (by omega) (by omega) (by rw [hr.1]; omega)
    · rw [if_neg hI, if_pos (by simpa using hI)]
  · rw [if_neg h, if_pos (by simpa using h)]
theorem impl_Put_ev {k : Nat} (hk : 4294967302 ≤ k) (t : Thr) (key val : ByteArray) (hs : Sm t) : asO (Thr × List ByteArray × Bool) (evF cfg0 k 163 (t, key, val)) = some (putF t key val) := by
  obtain ⟨k, rfl, hk'⟩ := exS hk
  obtain ⟨k', rfl⟩ : ∃ j, k = j + 1 + 1 := ⟨k - 2, by omega⟩
  have hs1 := hs.1
  have hs2 := hs.2.1
  have e1 := impl_ThreeOk_ev (k := k' + 1 + 1) (by omega) t hs
  have e2 := impl_ItemOk_ev (k := k' + 1 + 1) (by omega) (key, val, 0)
  have e3 := impl_copyThree_ev (k := k' + 1 + 1) (by omega) t (by have := hs.1; omega) (by have := hs.2.1; omega) (by have := hs.2.2; omega)
  have e4 := impl_itemAt_ev (k := k' + 1 + 1) (by omega) t.2.2.1 key (by omega)
  have e4' := impl_itemAt_ev (k := k' + 1 + 1) (by omega) t.2.2.2.1 key (by omega)
  have e5 : TPr t → asO ((ByteArray × Bool) × Thr) (evF cfg0 (k' + 1 + 1) 191 t) = some ((evF1 t).2, (evF1 t).1) := fun h => impl_Three_evict_ev (by omega) t h
  have e6 : IOk (key, val, 0) = true → ∀ (t : Thr) (gone : List ByteArray) (m : Nat) (h1 : t.2.2.1.length ≤ 1048577) (h2 : t.2.2.2.1.length ≤ 1048577) (h3 : t.2.2.2.2.length ≤ 1048577) (hc : (t.2.2.1.length : Int) + t.2.2.2.1.length < t.1), _ := fun h => impl_add_ev (k := k' + 1 + 1) hk key val (iok_key h)
  unfold putF
  obtain ⟨c, m, s, a, g⟩ := t
  rw [impl_Put_eq, e1]
  simp only [Option.bind_some]
  by_cases h : TOk (c, m, s, a, g) = true
  · have hp := (tok_iff _).1 h
    rw [h, if_pos rfl]
    simp only [Bool.not_true, Bool.false_eq_true, if_false]
    rw [e2]; simp only [Option.bind_some]
    by_cases hI : IOk (key, val, 0) = true
    · rw [hI, if_pos rfl]
      simp only [Bool.not_true, Bool.false_eq_true, if_false]
      rw [e3]; simp only [Option.bind_some]
      rw [e4]; simp only [Option.bind_some]
      unfold touchF
      by_cases hi : 0 ≤ atF key s 0
      · have hi2 := atF_bd key s hi
        have fr := frq_at hp.fs hi hi2
        rw [getD_set (by omega), List.set_set]
        simp only
        rw [min3 fr.1 fr.2]
        simp (disch := (first | assumption | omega)) only [if_pos, if_neg, if_t, if_f, not_true_eq_false, not_false_eq_true, Bool.false_eq_true, Bool.true_eq_false, eq_self, decide_true, decide_false, Bool.not_true, Bool.not_false, decide_eq_true_eq, Option.bind_some, Bool.not_eq_true', decide_eq_false_iff_not, hi, tchF]
      · rw [e4']; simp only [Option.bind_some]
        by_cases hj : 0 ≤ atF key a 0
        · have hj2 := atF_bd key a hj
          have fr := frq_at hp.fa hj hj2
          rw [getD_set (l := a) (by omega), List.set_set (l := a)]
          simp only
          rw [min3 (n := (a.getD (atF key a 0).toNat (Ty.dflt tItem)).2.2) fr.1 fr.2]
          simp (disch := (first | assumption | omega)) only [if_pos, if_neg, if_t, if_f, not_true_eq_false, not_false_eq_true, Bool.false_eq_true, Bool.true_eq_false, eq_self, decide_true, decide_false, Bool.not_true, Bool.not_false, decide_eq_true_eq, Option.bind_some, Bool.not_eq_true', decide_eq_false_iff_not, hi, hj, tchF]
        · simp (disch := (first | assumption | omega)) only [if_pos, if_neg, if_t, if_f, not_true_eq_false, not_false_eq_true, Bool.false_eq_true, Bool.true_eq_false, eq_self, decide_true, decide_false, Bool.not_true, Bool.not_false, decide_eq_true_eq, Option.bind_some, Bool.not_eq_true', decide_eq_false_iff_not, hi, hj]
          by_cases hc : (s.length : Int) + a.length < c
          · rw [if_pos hc]
            exact e6 hI (c, m, s, a, g) [] _ (by have := hp.sl; omega) (by have := hp.al; omega) (by have := hp.gl'; omega) hc
          · rw [if_neg hc]
            have hsl := hp.sl
            have hal := hp.al
            have hc1 := hp.c1
            have hln := hp.ln
            simp only at hsl hal hc1 hln
            have hr := ev1_res hp (by simp only; omega)
            simp only at hr
            rw [impl_Put_l0_eq, wrp (by omega) (by omega)]
            have hc' : c ≤ (s.length : Int) + a.length := by omega
            simp only [List.length_nil, List.length_cons]
            simp (disch := (first | assumption | omega)) only [if_pos, if_neg, if_t, if_f, not_true_eq_false, not_false_eq_true, Bool.false_eq_true, Bool.true_eq_false, eq_self, decide_true, decide_false, Bool.not_true, Bool.not_false, decide_eq_true_eq, Option.bind_some, Bool.not_eq_true', decide_eq_false_iff_not, hc', lim_3, lim_4, lim_9, lim_78, lim_121, lim_128, lim_137]
            rw [e5 hp]
            simp (disch := (first | assumption | omega)) only [if_pos, if_neg, if_t, if_f, not_true_eq_false, not_false_eq_true, Bool.false_eq_true, Bool.true_eq_false, eq_self, decide_true, decide_false, Bool.not_true, Bool.not_false, decide_eq_true_eq, Option.bind_some, Bool.not_eq_true', decide_eq_false_iff_not, lim_3, lim_4, lim_9, lim_78, lim_121, lim_128, lim_137, List.nil_append]
            exact e6 hI (evF1 (c, m, s, a, g)).1 _ _ (by omega) (by omega) (by omega) (by rw [hr.1]; omega)
    · rw [if_neg hI, if_pos (by simpa using hI)]
  · rw [if_neg h, if_pos (by simpa using h)]
end Go.Proofs.Ytgnnljpdcafdkaa.Ev

/- The laws' helpers for a cache. -/
namespace Go.Proofs.Ytgnnljpdcafdkaa.Ev
open Go
set_option linter.unusedVariables false

def mkThree (t : Thr) (n : Int) : Thr := (t.1, t.2.1, mkL mkItem ((3 : Nat) : Int) n t.2.2.1.length, mkL mkItem ((3 : Nat) : Int) (n + ((3 : Nat) : Int) * t.2.2.1.length) t.2.2.2.1.length, mkL mkInt ((1 : Nat) : Int) (n + ((3 : Nat) : Int) * t.2.2.1.length + ((3 : Nat) : Int) * t.2.2.2.1.length) t.2.2.2.2.length)
def endThree (t : Thr) (n : Int) : Int := n + ((3 : Nat) : Int) * t.2.2.1.length + ((3 : Nat) : Int) * t.2.2.2.1.length + ((1 : Nat) : Int) * t.2.2.2.2.length
theorem endThree_bd (t : Thr) (hs : Sm t) (n : Int) : n ≤ endThree t n ∧ endThree t n ≤ n + 10000000 := by
  have h1 := hs.1
  have h2 := hs.2.1
  have h3 := hs.2.2
  unfold endThree
  omega
def BdI (l : List Itm) : Prop := ∀ x ∈ l, x.1.size ≤ 1048576 ∧ x.2.1.size ≤ 1048576
theorem laws_szThree_ev {k : Nat} (hk : 4294967299 ≤ k) (t : Thr) (n : Int) (hs : Sm t) (h0 : 0 ≤ n) (h1 : n ≤ 1048576) (b1 : BdI t.2.2.1) (b2 : BdI t.2.2.2.1) : ∃ r, asO Int (evF cfg0 k 29 (t, n)) = some r ∧ -1 ≤ r ∧ r ≤ 1048576 := by
  obtain ⟨k, rfl, hk⟩ := exS hk
  obtain ⟨c, m, s, a, g⟩ := t
  obtain ⟨hs1, hs2, hs3⟩ := hs
  simp only at hs1 hs2 hs3 b1 b2
  obtain ⟨r1, e1, p1, q1⟩ := laws_szItemS_ev (k := k) (by omega) s n (by omega) h0 h1 b1
  rw [laws_szThree_eq, e1]
  simp only [Option.bind_some, decide_eq_true_eq]
  split
  · exact ⟨-1, rfl, by omega, by omega⟩
  · obtain ⟨r2, e2, p2, q2⟩ := laws_szItemS_ev (k := k) (by omega) a r1 (by omega) (by omega) q1 b2
    rw [e2]
    simp only [Option.bind_some]
    split
    · exact ⟨-1, rfl, by omega, by omega⟩
    · obtain ⟨r3, e3, p3, q3⟩ := laws_szIntS_ev (k := k) (by omega) g r2 (by omega) (by omega) q2
      rw [e3]
      simp only [Option.bind_some]
      split
      · exact ⟨-1, rfl, by omega, by omega⟩
      · exact ⟨r3, rfl, by omega, by omega⟩
theorem laws_toThree_ev {k : Nat} (hk : 4294967299 ≤ k) (t : Thr) (hs : Sm t) : asO Thr (evF cfg0 k 32 t) = some t := by
  obtain ⟨k, rfl, hk⟩ := exS hk
  obtain ⟨c, m, s, a, g⟩ := t
  obtain ⟨hs1, hs2, hs3⟩ := hs
  simp only at hs1 hs2 hs3
  have e1 := laws_toItemS_ev (k := k) (by omega) s (by omega)
  have e2 := laws_toItemS_ev (k := k) (by omega) a (by omega)
  have e3 := laws_toIntS_ev (k := k) (by omega) g (by omega)
  rw [laws_toThree_eq]
  simp (disch := (first | assumption | omega)) only [if_pos, if_neg, if_t, if_f, not_true_eq_false, not_false_eq_true, Bool.false_eq_true, Bool.true_eq_false, eq_self, decide_true, decide_false, Bool.not_true, Bool.not_false, decide_eq_true_eq, Option.bind_some, Bool.not_eq_true', decide_eq_false_iff_not, e1, e2, e3]
theorem laws_eqThree_ev {k : Nat} (hk : 4294967299 ≤ k) (t : Thr) (hs : Sm t) : asO Bool (evF cfg0 k 13 (t, t)) = some true := by
  obtain ⟨k, rfl, hk⟩ := exS hk
  obtain ⟨c, m, s, a, g⟩ := t
  obtain ⟨hs1, hs2, hs3⟩ := hs
  simp only at hs1 hs2 hs3
  have e1 := laws_eqItemS_ev (k := k) (by omega) s (by omega)
  have e2 := laws_eqItemS_ev (k := k) (by omega) a (by omega)
  have e3 := laws_eqIntS_ev (k := k) (by omega) g (by omega)
  rw [laws_eqThree_eq]
  simp (disch := (first | assumption | omega)) only [if_pos, if_neg, if_t, if_f, not_true_eq_false, not_false_eq_true, Bool.false_eq_true, Bool.true_eq_false, eq_self, decide_true, decide_false, Bool.not_true, Bool.not_false, decide_eq_true_eq, Option.bind_some, Bool.not_eq_true', decide_eq_false_iff_not, e1, e2, e3]
theorem laws_markThree_ev {k : Nat} (hk : 4294967299 + 1 ≤ k) (t : Thr) (n : Int) (hs : Sm t) (h0 : 0 ≤ n) (h1 : n ≤ 900000000) : asO (Int × Thr) (evF cfg0 k 14 (t, n)) = some (endThree t n, mkThree t n) := by
  obtain ⟨k, rfl, hk⟩ := exS hk
  obtain ⟨c, m, s, a, g⟩ := t
  obtain ⟨hs1, hs2, hs3⟩ := hs
  simp only at hs1 hs2 hs3
  have e1 := laws_markItemS_ev (k := k) (by omega) s n (by omega) h0 (by omega)
  have e2 := laws_markItemS_ev (k := k) (by omega) a (n + ((3 : Nat) : Int) * s.length) (by omega) (by omega) (by omega)
  have e3 := laws_markIntS_ev (k := k) (by omega) g (n + ((3 : Nat) : Int) * s.length + ((3 : Nat) : Int) * a.length) (by omega) (by omega) (by omega)
  rw [laws_markThree_eq]
  simp (disch := (first | assumption | omega)) only [if_pos, if_neg, if_t, if_f, not_true_eq_false, not_false_eq_true, Bool.false_eq_true, Bool.true_eq_false, eq_self, decide_true, decide_false, Bool.not_true, Bool.not_false, decide_eq_true_eq, Option.bind_some, Bool.not_eq_true', decide_eq_false_iff_not, e1, e2, e3, endThree, mkThree]
theorem laws_heldThree_ev {k : Nat} (hk : 4294967299 + 1 ≤ k) (t : Thr) (n : Int) (hs : Sm t) (h0 : 0 ≤ n) (h1 : n ≤ 900000000) : asO Int (evF cfg0 k 15 (mkThree t n, n)) = some (endThree t n) := by
  obtain ⟨k, rfl, hk⟩ := exS hk
  obtain ⟨c, m, s, a, g⟩ := t
  obtain ⟨hs1, hs2, hs3⟩ := hs
  simp only at hs1 hs2 hs3
  have e1 := laws_heldItemS_ev (k := k) (by omega) n s.length (by omega) h0 (by omega)
  have e2 := laws_heldItemS_ev (k := k) (by omega) (n + ((3 : Nat) : Int) * s.length) a.length (by omega) (by omega) (by omega)
  have e3 := laws_heldIntS_ev (k := k) (by omega) (n + ((3 : Nat) : Int) * s.length + ((3 : Nat) : Int) * a.length) g.length (by omega) (by omega) (by omega)
  unfold mkThree
  rw [laws_heldThree_eq]
  have q1 : ¬ n + ((3 : Nat) : Int) * s.length < 0 := by omega
  have q2 : ¬ n + ((3 : Nat) : Int) * s.length + ((3 : Nat) : Int) * a.length < 0 := by omega
  have q3 : ¬ n + ((3 : Nat) : Int) * s.length + ((3 : Nat) : Int) * a.length + ((1 : Nat) : Int) * g.length < 0 := by omega
  simp (disch := (first | assumption | omega)) only [if_pos, if_neg, if_t, if_f, not_true_eq_false, not_false_eq_true, Bool.false_eq_true, Bool.true_eq_false, eq_self, decide_true, decide_false, Bool.not_true, Bool.not_false, decide_eq_true_eq, Option.bind_some, Bool.not_eq_true', decide_eq_false_iff_not, e1, e2, e3, endThree, q1, q2, q3]
theorem put_gone (t : Thr) (key val : ByteArray) : (putF t key val).2.1.length ≤ 1 := by
  unfold putF addF; repeat' split
  all_goals simp
theorem put_sm {t : Thr} (h : Sm t) (key val : ByteArray) : Sm (putF t key val).1 := by
  unfold putF
  by_cases h1 : TOk t = true
  · rw [if_pos h1]
    have hp := (tok_iff _).1 h1
    have l1 := hp.sl
    have l2 := hp.al
    have l3 := hp.gl'
    split
    · split
      · unfold touchF tchF Sm; repeat' split
        all_goals simp only [List.length_set]
        all_goals omega
      · have l4 := but_len (hash key) t.2.2.2.2
        split
        · unfold addF Sm; split
          all_goals simp only [List.length_append, List.length_cons, List.length_nil]
          all_goals omega
        · next q =>
          have hr := ev1_res hp (by have := hp.c1; omega)
          have l5 := but_len (hash key) (evF1 t).1.2.2.2.2
          unfold addF Sm; split
          all_goals simp only [List.length_append, List.length_cons, List.length_nil]
          all_goals omega
    · exact ⟨by simp, by simp, by simp⟩
  · rw [if_neg h1]; exact ⟨by simp, by simp, by simp⟩
theorem get_sm {t : Thr} (h : Sm t) (key : ByteArray) : Sm (getF t key).1 := by
  obtain ⟨a, b, c⟩ := h
  unfold getF
  split
  · unfold touchF tchF Sm; repeat' split
    all_goals simp only [List.length_set]
    all_goals omega
  · exact ⟨by simp, by simp, by simp⟩
theorem drop_sm {t : Thr} (h : Sm t) (key : ByteArray) : Sm (dropF t key).1 := by
  obtain ⟨a, b, c⟩ := h
  unfold dropF
  have l1 := butI_len key t.2.2.1
  have l2 := butI_len key t.2.2.2.1
  split
  · exact ⟨by simp only; omega, by simp only; omega, c⟩
  · exact ⟨by simp, by simp, by simp⟩
theorem get_cap {t : Thr} (key : ByteArray) : (getF t key).1 = thr0 ∨ 0 < (getF t key).1.1 := by
  unfold getF
  split
  · next h =>
    right
    have hp := (tok_iff _).1 h
    have := hp.c1
    unfold touchF
    split
    · simp only; omega
    · split
      · simp only; omega
      · simp only; omega
  · left; rfl
theorem put_cap {t : Thr} (key val : ByteArray) : (putF t key val).1 = thr0 ∨ 0 < (putF t key val).1.1 := by
  unfold putF
  split
  · next h =>
    have hp := (tok_iff _).1 h
    have c1 := hp.c1
    split
    · right
      split
      · unfold touchF
        split
        · simp only; omega
        · split
          · simp only; omega
          · simp only; omega
      · split
        · unfold addF; split
          · simp only; omega
          · simp only; omega
        · next q =>
          have hr := ev1_res hp (by omega)
          unfold addF; split
          · simp only; omega
          · simp only; omega
    · left; rfl
  · left; rfl
end Go.Proofs.Ytgnnljpdcafdkaa.Ev

/- The other caches: rows of items. -/
namespace Go.Proofs.Ytgnnljpdcafdkaa.Ev
open Go
set_option linter.unusedVariables false

abbrev RowT := Int × Int × List Itm
abbrev row0 : RowT := (0, 0, [])
def frOk (kind : Int) (l : List Itm) : Bool := l.all fun x => decide (0 ≤ x.2.2) && decide (x.2.2 ≤ if kind = 3 then 1 else 0)
def rowOk (r : RowT) : Bool := (decide (1 ≤ r.1) && decide (r.1 ≤ 3)) && (decide (1 ≤ r.2.1) && decide (r.2.1 ≤ 60)) && decide ((r.2.2.length : Int) ≤ r.2.1) && itF r.2.2 r.2.2 0 && frOk r.1 r.2.2
theorem spec_RowOk_l0_ev {k : Nat} (hk : 4294967299 ≤ k + 1) (c mo : Int) (l : List Itm) (hl : l.length ≤ 4194304) : ∀ (m : Nat) (i : Int), 0 ≤ i → i ≤ l.length → l.length < i + m → spec_RowOk_l0 k m c mo l i = some (itF l (l.drop i.toNat) i && frOk c (l.drop i.toNat)) := by
  intro m
  induction m with
  | zero => intro i h0 h1 h2; omega
  | succ m ih =>
    intro i h0 h1 h2
    rw [spec_RowOk_l0_eq]
    by_cases h3 : i < (l.length : Int)
    · rw [dropC (d := Ty.dflt tItem) h0 h3, spec_ItemOk_ev (by omega), spec_l10At_ev (by omega) _ _ hl]
      have ih' := ih (i + 1) (by omega) (by omega) (by omega)
      generalize hx : l.getD i.toNat (Ty.dflt tItem) = x
      by_cases h4 : IOk x = true
      · have hf := iok_frq h4
        have d0 : decide (0 ≤ x.2.2) = true := decide_eq_true hf.1
        by_cases h5 : atF x.1 l 0 = i
        · by_cases h6 : 1 < x.2.2
          · have d1 : decide (x.2.2 ≤ if c = 3 then 1 else 0) = false := decide_eq_false (by split <;> omega)
            simp (disch := (first | assumption | omega)) only [if_pos, if_neg, if_t, if_f, not_true_eq_false, not_false_eq_true, Bool.false_eq_true, Bool.true_eq_false, eq_self, decide_true, decide_false, Bool.not_true, Bool.not_false, decide_eq_true_eq, Option.bind_some, Bool.not_eq_true', decide_eq_false_iff_not, itF, h4, h5, h6, frOk, List.all_cons, d0, d1, Bool.true_and, Bool.false_and, Bool.and_false]
          · by_cases h7 : x.2.2 = 1
            · by_cases h8 : c = 3
              · have d1 : decide (x.2.2 ≤ if c = 3 then 1 else 0) = true := decide_eq_true (by rw [if_pos h8]; omega)
                simp only [frOk] at ih'
                simp (disch := (first | assumption | omega)) only [if_pos, if_neg, if_t, if_f, not_true_eq_false, not_false_eq_true, Bool.false_eq_true, Bool.true_eq_false, eq_self, decide_true, decide_false, Bool.not_true, Bool.not_false, decide_eq_true_eq, Option.bind_some, Bool.not_eq_true', decide_eq_false_iff_not, itF, h4, h5, h6, h7, h8, frOk, List.all_cons, d0, d1, Bool.true_and, wrp]
                simp only [h8, if_true] at ih' ⊢
                rw [ih']; simp [h7]
              · have d1 : decide (x.2.2 ≤ if c = 3 then 1 else 0) = false := decide_eq_false (by rw [if_neg h8]; omega)
                simp (disch := (first | assumption | omega)) only [if_pos, if_neg, if_t, if_f, not_true_eq_false, not_false_eq_true, Bool.false_eq_true, Bool.true_eq_false, eq_self, decide_true, decide_false, Bool.not_true, Bool.not_false, decide_eq_true_eq, Option.bind_some, Bool.not_eq_true', decide_eq_false_iff_not, itF, h4, h5, h6, h7, h8, frOk, List.all_cons, Bool.true_and, Bool.false_and, Bool.and_false]
                simp
            · have d1 : decide (x.2.2 ≤ if c = 3 then 1 else 0) = true := decide_eq_true (by split <;> omega)
              simp only [frOk] at ih'
              simp (disch := (first | assumption | omega)) only [if_pos, if_neg, if_t, if_f, not_true_eq_false, not_false_eq_true, Bool.false_eq_true, Bool.true_eq_false, eq_self, decide_true, decide_false, Bool.not_true, Bool.not_false, decide_eq_true_eq, Option.bind_some, Bool.not_eq_true', decide_eq_false_iff_not, itF, h4, h5, h6, h7, frOk, List.all_cons, d0, d1, Bool.true_and, wrp]
              exact ih'
        · simp (disch := (first | assumption | omega)) only [if_pos, if_neg, if_t, if_f, not_true_eq_false, not_false_eq_true, Bool.false_eq_true, Bool.true_eq_false, eq_self, decide_true, decide_false, Bool.not_true, Bool.not_false, decide_eq_true_eq, Option.bind_some, Bool.not_eq_true', decide_eq_false_iff_not, itF, h4, h5, Bool.and_false, Bool.false_and]
      · simp only [Bool.not_eq_true] at h4
        simp (disch := (first | assumption | omega)) only [if_pos, if_neg, if_t, if_f, not_true_eq_false, not_false_eq_true, Bool.false_eq_true, Bool.true_eq_false, eq_self, decide_true, decide_false, Bool.not_true, Bool.not_false, decide_eq_true_eq, Option.bind_some, Bool.not_eq_true', decide_eq_false_iff_not, itF, h4, Bool.false_and]
    · rw [dropN h0 h3]
      simp (disch := (first | assumption | omega)) only [if_pos, if_neg, if_t, if_f, not_true_eq_false, not_false_eq_true, Bool.false_eq_true, Bool.true_eq_false, eq_self, decide_true, decide_false, Bool.not_true, Bool.not_false, decide_eq_true_eq, Option.bind_some, Bool.not_eq_true', decide_eq_false_iff_not, itF, h3, frOk, List.all_nil, Bool.and_true]
theorem spec_RowOk_ev {k : Nat} (hk : 4294967299 ≤ k) (r : RowT) (hl : r.2.2.length ≤ 4194304) : asO Bool (evF cfg0 k 153 r) = some (rowOk r) := by
  obtain ⟨k, rfl, hk'⟩ := exS hk
  obtain ⟨c, m, l⟩ := r
  simp only at hl
  have e := spec_RowOk_l0_ev hk c m l hl k 0 (by omega) (by omega) (by omega)
  rw [spec_RowOk_eq, spec_l01In_ev (by omega), e]
  simp only [Option.bind_some, decide_eq_true_eq, Int.toNat_zero, List.drop_zero]
  unfold rowOk
  by_cases h1 : c < 1
  · have d : decide (1 ≤ c) = false := decide_eq_false (by omega)
    simp [h1, d]
  · have d : decide (1 ≤ c) = true := decide_eq_true (by omega)
    by_cases h2 : 3 < c
    · have d2 : decide (c ≤ 3) = false := decide_eq_false (by omega)
      simp [h1, h2, d2]
    · have d2 : decide (c ≤ 3) = true := decide_eq_true (by omega)
      rw [if_neg h1, if_neg h2, d, d2]
      by_cases h3 : (decide (1 ≤ m) && decide (m ≤ 60)) = true
      · rw [h3]
        by_cases h4 : m < (l.length : Int)
        · have d3 : decide ((l.length : Int) ≤ m) = false := decide_eq_false (by omega)
          rw [d3]; simp [h4]
        · have d3 : decide ((l.length : Int) ≤ m) = true := decide_eq_true (by omega)
          rw [d3]; simp [h4]
      · simp only [Bool.not_eq_true] at h3
        rw [h3]; simp
theorem impl_RowOk_l0_ev {k : Nat} (hk : 4294967301 ≤ k + 1) (c mo : Int) (l : List Itm) (hl : l.length ≤ 4194304) (mx : Int) (hmx : mx = if c = 3 then 1 else 0) : ∀ (m : Nat) (i : Int), 0 ≤ i → i ≤ l.length → l.length < i + m → impl_RowOk_l0 k m c mo l mx i = some (frOk c (l.drop i.toNat) && ((decide (1 ≤ c) && decide (c ≤ 3)) && (decide (1 ≤ mo) && decide (mo ≤ 60)) && decide ((l.length : Int) ≤ mo) && itF l l 0)) := by
  intro m
  induction m with
  | zero => intro i h0 h1 h2; omega
  | succ m ih =>
    intro i h0 h1 h2
    rw [impl_RowOk_l0_eq]
    by_cases h3 : i < (l.length : Int)
    · have ih' := ih (i + 1) (by omega) (by omega) (by omega)
      rw [dropC (d := Ty.dflt tItem) h0 h3, impl_within_ev (by omega)]
      have w : IntKind.wrap .i64 (i + 1) = i + 1 := wrp (by omega) (by omega)
      simp only [frOk, List.all_cons] at ih' ⊢
      rw [← hmx]
      rw [← hmx] at ih'
      by_cases h4 : (decide (0 ≤ (l.getD i.toNat (Ty.dflt tItem)).2.2) && decide ((l.getD i.toNat (Ty.dflt tItem)).2.2 ≤ mx)) = true
      · simp (disch := (first | assumption | omega)) only [if_pos, if_neg, if_t, if_f, not_true_eq_false, not_false_eq_true, Bool.false_eq_true, Bool.true_eq_false, eq_self, decide_true, decide_false, Bool.not_true, Bool.not_false, decide_eq_true_eq, Option.bind_some, Bool.not_eq_true', decide_eq_false_iff_not, h4, Bool.true_and, w]
        exact ih'
      · simp only [Bool.not_eq_true] at h4
        simp (disch := (first | assumption | omega)) only [if_pos, if_neg, if_t, if_f, not_true_eq_false, not_false_eq_true, Bool.false_eq_true, Bool.true_eq_false, eq_self, decide_true, decide_false, Bool.not_true, Bool.not_false, decide_eq_true_eq, Option.bind_some, Bool.not_eq_true', decide_eq_false_iff_not, h4, Bool.false_and]
    · rw [dropN h0 h3, impl_within_ev (by omega), impl_within_ev (by omega), impl_within_ev (by omega), impl_areItems_ev (by omega) l hl]
      simp (disch := (first | assumption | omega)) only [if_pos, if_neg, if_t, if_f, not_true_eq_false, not_false_eq_true, Bool.false_eq_true, Bool.true_eq_false, eq_self, decide_true, decide_false, Bool.not_true, Bool.not_false, decide_eq_true_eq, Option.bind_some, Bool.not_eq_true', decide_eq_false_iff_not, h3, frOk, List.all_nil, Bool.true_and]
      by_cases h5 : (decide (1 ≤ c) && decide (c ≤ 3)) = true
      · rw [h5]
        by_cases h6 : (decide (1 ≤ mo) && decide (mo ≤ 60)) = true
        · rw [h6]
          by_cases h7 : (l.length : Int) ≤ mo
          · simp [h7]
          · simp [h7]
        · simp only [Bool.not_eq_true] at h6
          rw [h6]; simp
      · simp only [Bool.not_eq_true] at h5
        rw [h5]; simp
theorem impl_RowOk_ev {k : Nat} (hk : 4294967301 ≤ k) (r : RowT) (hl : r.2.2.length ≤ 4194304) : asO Bool (evF cfg0 k 181 r) = some (rowOk r) := by
  obtain ⟨k, rfl, hk'⟩ := exS hk
  obtain ⟨c, m, l⟩ := r
  simp only at hl
  have e := fun mx hmx => impl_RowOk_l0_ev hk c m l hl mx hmx k 0 (by omega) (by omega) (by omega)
  rw [impl_RowOk_eq]
  simp only [decide_eq_true_eq]
  unfold rowOk
  by_cases h : c = 3
  · rw [if_pos h, e 1 (by rw [if_pos h]), Int.toNat_zero, List.drop_zero, Bool.and_comm]
  · rw [if_neg h, e 0 (by rw [if_neg h]), Int.toNat_zero, List.drop_zero, Bool.and_comm]

structure RPr (r : RowT) : Prop where
  c1 : 1 ≤ r.2.1
  c2 : r.2.1 ≤ 60
  ln : (r.2.2.length : Int) ≤ r.2.1
  nd : (r.2.2.map (fun x => x.1)).Nodup
theorem rowOk_pr {r : RowT} (h : rowOk r = true) : RPr r := by
  simp only [rowOk, Bool.and_eq_true, decide_eq_true_eq, itF_all] at h
  exact ⟨h.1.1.1.2.1, h.1.1.1.2.2, h.1.1.2, h.1.2.2⟩

theorem spec_RowNew_ev {k : Nat} (hk : 4294967300 ≤ k) (a b : Int) : asO (RowT × Bool) (evF cfg0 k 144 (a, b)) = some (if rowOk (a, b, []) = true then ((a, b, []), true) else (row0, false)) := by
  obtain ⟨k, rfl, hk'⟩ := exS hk
  rw [spec_RowNew_eq, spec_RowOk_ev (by omega) (a, b, []) (by simp)]
  by_cases h : rowOk (a, b, []) = true
  · simp [h]
  · simp only [Bool.not_eq_true] at h
    simp [h]
theorem spec_ThreeNew_ev {k : Nat} (hk : 4294967300 ≤ k) (a b : Int) : asO (Thr × Bool) (evF cfg0 k 145 (a, b)) = some (if TOk (a, b, [], [], []) = true then ((a, b, [], [], []), true) else (thr0, false)) := by
  obtain ⟨k, rfl, hk'⟩ := exS hk
  rw [spec_ThreeNew_eq, spec_ThreeOk_ev (by omega) (a, b, [], [], []) ⟨by simp, by simp, by simp⟩]
  by_cases h : TOk (a, b, [], [], []) = true
  · simp [h]
  · simp only [Bool.not_eq_true] at h
    simp [h]
theorem impl_RowNew_ev {k : Nat} (hk : 4294967302 ≤ k) (a b : Int) : asO (RowT × Bool) (evF cfg0 k 149 (a, b)) = some (if rowOk (a, b, []) = true then ((a, b, []), true) else (row0, false)) := by
  obtain ⟨k, rfl, hk'⟩ := exS hk
  rw [impl_RowNew_eq, impl_RowOk_ev (by omega) (a, b, []) (by simp)]
  by_cases h : rowOk (a, b, []) = true
  · simp [h]
  · simp only [Bool.not_eq_true] at h
    simp [h]
theorem impl_ThreeNew_ev {k : Nat} (hk : 4294967302 ≤ k) (a b : Int) : asO (Thr × Bool) (evF cfg0 k 148 (a, b)) = some (if TOk (a, b, [], [], []) = true then ((a, b, [], [], []), true) else (thr0, false)) := by
  obtain ⟨k, rfl, hk'⟩ := exS hk
  rw [impl_ThreeNew_eq, impl_ThreeOk_ev (by omega) (a, b, [], [], []) ⟨by simp, by simp, by simp⟩]
  by_cases h : TOk (a, b, [], [], []) = true
  · simp [h]
  · simp only [Bool.not_eq_true] at h
    simp [h]
def aksF : List ByteArray → Bool
  | [] => true
  | s :: r => IOk (s, (⟨#[]⟩ : ByteArray), 0) && aksF r
theorem spec_AsksOk_l0_ev {k : Nat} (hk : 4294967299 ≤ k + 1) (l : List ByteArray) (hl : l.length ≤ 4194304) : ∀ (m : Nat) (i : Int), 0 ≤ i → i ≤ l.length → l.length < i + m → spec_AsksOk_l0 k m l i = some (aksF (l.drop i.toNat) && decide ((l.length : Int) ≤ 300)) := by
  intro m
  induction m with
  | zero => intro i h0 h1 h2; omega
  | succ m ih =>
    intro i h0 h1 h2
    rw [spec_AsksOk_l0_eq]
    by_cases h3 : i < (l.length : Int)
    · have ih' := ih (i + 1) (by omega) (by omega) (by omega)
      have e := spec_ItemOk_ev (k := k) (by omega) (l.getD i.toNat (⟨#[]⟩ : ByteArray), (⟨#[]⟩ : ByteArray), 0)
      rw [dropC (d := (⟨#[]⟩ : ByteArray)) h0 h3, e]
      by_cases h4 : IOk (l.getD i.toNat (⟨#[]⟩ : ByteArray), (⟨#[]⟩ : ByteArray), 0) = true
      · simp (disch := (first | assumption | omega)) only [if_pos, if_neg, if_t, if_f, not_true_eq_false, not_false_eq_true, Bool.false_eq_true, Bool.true_eq_false, eq_self, decide_true, decide_false, Bool.not_true, Bool.not_false, decide_eq_true_eq, Option.bind_some, Bool.not_eq_true', decide_eq_false_iff_not, h4, aksF, Bool.true_and, wrp]
        exact ih'
      · simp only [Bool.not_eq_true] at h4
        simp (disch := (first | assumption | omega)) only [if_pos, if_neg, if_t, if_f, not_true_eq_false, not_false_eq_true, Bool.false_eq_true, Bool.true_eq_false, eq_self, decide_true, decide_false, Bool.not_true, Bool.not_false, decide_eq_true_eq, Option.bind_some, Bool.not_eq_true', decide_eq_false_iff_not, h4, aksF, Bool.false_and]
    · rw [dropN h0 h3]
      simp (disch := (first | assumption | omega)) only [if_pos, if_neg, if_t, if_f, not_true_eq_false, not_false_eq_true, Bool.false_eq_true, Bool.true_eq_false, eq_self, decide_true, decide_false, Bool.not_true, Bool.not_false, decide_eq_true_eq, Option.bind_some, Bool.not_eq_true', decide_eq_false_iff_not, h3, aksF, Bool.true_and]
theorem spec_AsksOk_ev {k : Nat} (hk : 4294967299 ≤ k) (l : List ByteArray) (hl : l.length ≤ 4194304) : asO Bool (evF cfg0 k 81 l) = some (aksF l && decide ((l.length : Int) ≤ 300)) := by
  obtain ⟨k, rfl, hk'⟩ := exS hk
  rw [spec_AsksOk_eq]
  simpa using spec_AsksOk_l0_ev hk l hl k 0 (by omega) (by omega) (by omega)
theorem impl_AsksOk_l0_ev {k : Nat} (hk : 4294967299 ≤ k + 1) (l : List ByteArray) (hl : l.length ≤ 4194304) : ∀ (m : Nat) (i : Int), 0 ≤ i → i ≤ l.length → l.length < i + m → impl_AsksOk_l0 k m l i = some (aksF (l.drop i.toNat) && decide ((l.length : Int) ≤ 300)) := by
  intro m
  induction m with
  | zero => intro i h0 h1 h2; omega
  | succ m ih =>
    intro i h0 h1 h2
    rw [impl_AsksOk_l0_eq]
    by_cases h3 : i < (l.length : Int)
    · have ih' := ih (i + 1) (by omega) (by omega) (by omega)
      have e := impl_ItemOk_ev (k := k) (by omega) (l.getD i.toNat (⟨#[]⟩ : ByteArray), (⟨#[]⟩ : ByteArray), 0)
      rw [dropC (d := (⟨#[]⟩ : ByteArray)) h0 h3, e]
      by_cases h4 : IOk (l.getD i.toNat (⟨#[]⟩ : ByteArray), (⟨#[]⟩ : ByteArray), 0) = true
      · simp (disch := (first | assumption | omega)) only [if_pos, if_neg, if_t, if_f, not_true_eq_false, not_false_eq_true, Bool.false_eq_true, Bool.true_eq_false, eq_self, decide_true, decide_false, Bool.not_true, Bool.not_false, decide_eq_true_eq, Option.bind_some, Bool.not_eq_true', decide_eq_false_iff_not, h4, aksF, Bool.true_and, wrp]
        exact ih'
      · simp only [Bool.not_eq_true] at h4
        simp (disch := (first | assumption | omega)) only [if_pos, if_neg, if_t, if_f, not_true_eq_false, not_false_eq_true, Bool.false_eq_true, Bool.true_eq_false, eq_self, decide_true, decide_false, Bool.not_true, Bool.not_false, decide_eq_true_eq, Option.bind_some, Bool.not_eq_true', decide_eq_false_iff_not, h4, aksF, Bool.false_and]
    · rw [dropN h0 h3]
      simp (disch := (first | assumption | omega)) only [if_pos, if_neg, if_t, if_f, not_true_eq_false, not_false_eq_true, Bool.false_eq_true, Bool.true_eq_false, eq_self, decide_true, decide_false, Bool.not_true, Bool.not_false, decide_eq_true_eq, Option.bind_some, Bool.not_eq_true', decide_eq_false_iff_not, h3, aksF, Bool.true_and]
theorem impl_AsksOk_ev {k : Nat} (hk : 4294967299 ≤ k) (l : List ByteArray) (hl : l.length ≤ 4194304) : asO Bool (evF cfg0 k 84 l) = some (aksF l && decide ((l.length : Int) ≤ 300)) := by
  obtain ⟨k, rfl, hk'⟩ := exS hk
  rw [impl_AsksOk_eq]
  simpa using impl_AsksOk_l0_ev hk l hl k 0 (by omega) (by omega) (by omega)
abbrev Stp := Int × Int × Int
def setOk (s : Stp) : Bool := if s.1 = 4 then TOk (s.2.1, s.2.2, [], [], []) else rowOk (s.1, s.2.1, []) && decide (s.2.2 = 0)
theorem spec_SetupOk_ev {k : Nat} (hk : 4294967301 ≤ k) (s : Stp) : asO Bool (evF cfg0 k 80 s) = some (setOk s) := by
  obtain ⟨k, rfl, hk'⟩ := exS hk
  obtain ⟨a, b, c⟩ := s
  rw [spec_SetupOk_eq, spec_RowNew_ev (by omega), spec_ThreeNew_ev (by omega)]
  unfold setOk
  simp only [Option.bind_some, decide_eq_true_eq]
  by_cases h1 : rowOk (a, b, []) = true
  · have h2 : ¬ a = 4 := by
      simp only [rowOk, Bool.and_eq_true, decide_eq_true_eq] at h1; omega
    by_cases h3 : c = 0
    · simp [h1, h2, h3]
    · simp [h1, h2, h3]
  · by_cases h2 : a = 4
    · subst h2
      by_cases h3 : TOk (b, c, [], [], []) = true
      · simp [h1, h3]
      · simp only [Bool.not_eq_true] at h3
        simp [h1, h3]
    · simp [h1, h2]
theorem impl_SetupOk_ev {k : Nat} (hk : 4294967303 ≤ k) (s : Stp) : asO Bool (evF cfg0 k 83 s) = some (setOk s) := by
  obtain ⟨k, rfl, hk'⟩ := exS hk
  obtain ⟨a, b, c⟩ := s
  rw [impl_SetupOk_eq, impl_RowNew_ev (by omega), impl_ThreeNew_ev (by omega)]
  unfold setOk
  simp only [Option.bind_some, decide_eq_true_eq]
  by_cases h2 : a = 4
  · by_cases h3 : TOk (b, c, [], [], []) = true
    · simp [h2, h3]
    · simp only [Bool.not_eq_true] at h3
      simp [h2, h3]
  · by_cases h1 : rowOk (a, b, []) = true
    · simp [h1, h2]
    · simp only [Bool.not_eq_true] at h1
      simp [h1, h2]

/-! ### an item of a row is asked for -/
theorem del_but {key : ByteArray} : ∀ (l : List Itm) (i : Nat), (l.map (fun x => x.1)).Nodup → i < l.length → (l.getD i (Ty.dflt tItem)).1 = key → butI key l = l.take i ++ l.drop (i + 1)
  | [], i, hn, hi, hk => by simp at hi
  | x :: l, i, hn, hi, hk => by
    simp only [List.map_cons, List.nodup_cons] at hn
    cases i with
    | zero =>
      simp only [List.getD_cons_zero] at hk
      have : butI key l = l := by
        simp only [butI, List.filter_eq_self]
        intro y hy
        have : y.1 ≠ key := fun q => hn.1 (List.mem_map.2 ⟨y, hy, by rw [q, hk]⟩)
        simp [this]
      simp only [List.take_zero, List.nil_append, List.drop_succ_cons, List.drop_zero]
      rw [← this]; simp [butI, hk]
    | succ i =>
      simp only [List.getD_cons_succ] at hk
      simp only [List.length_cons] at hi
      have ih := del_but l i hn.2 (by omega) hk
      have hx : x.1 ≠ key := fun q => hn.1 (List.mem_map.2 ⟨l.getD i (Ty.dflt tItem), getD_lt (by omega), by rw [hk, q]⟩)
      simp only [List.take_succ_cons, List.drop_succ_cons, List.cons_append]
      rw [← ih]; simp [butI, hx]
theorem slices_Delete__impl_Item_impl_Item_ev {k : Nat} (hk : 4294967297 ≤ k) (l : List Itm) (i : Int) (h0 : 0 ≤ i) (h1 : i < l.length) (hl : l.length ≤ 4194304) : asO (List Itm) (evF cfg0 k 224 (l, i, i + 1)) = some (l.take i.toNat ++ l.drop (i.toNat + 1)) := by
  obtain ⟨k, rfl, hk'⟩ := exS hk
  have e1 : (i + 1).toNat = i.toNat + 1 := tn1 h0
  have e2 : (l.drop (i.toNat + 1)).take (l.length - (i.toNat + 1)) = l.drop (i.toNat + 1) := by
    rw [List.take_of_length_le]; rw [List.length_drop]; omega
  have e3 : (l.drop 0).take (i.toNat - 0) = l.take i.toNat := by rw [List.drop_zero, Nat.sub_zero]
  rw [slices_Delete__impl_Item_impl_Item_eq, e1, e2, e3]
  have l1 : (l.take i.toNat ++ l.drop (i.toNat + 1)).length = l.length - 1 := by rw [List.length_append, List.length_take, List.length_drop]; omega
  have l2 : (l.drop (i.toNat + 1)).length = l.length - (i.toNat + 1) := by rw [List.length_drop]
  rw [l1, l2, Int.toNat_natCast]
  have n1 : ¬ i = i + 1 := by omega
  simp (disch := (first | assumption | omega)) only [if_pos, if_neg, if_t, if_f, not_true_eq_false, not_false_eq_true, Bool.false_eq_true, Bool.true_eq_false, eq_self, decide_true, decide_false, Bool.not_true, Bool.not_false, decide_eq_true_eq, Option.bind_some, Bool.not_eq_true', decide_eq_false_iff_not, n1, lim_3, lim_4, lim_9, lim_78, lim_121, lim_128, lim_137]
def rtouch (r : RowT) (i : Int) : RowT :=
  if r.1 = 2 then (r.1, r.2.1, butI (r.2.2.getD i.toNat (Ty.dflt tItem)).1 r.2.2 ++ [r.2.2.getD i.toNat (Ty.dflt tItem)])
  else if r.1 = 3 then (r.1, r.2.1, r.2.2.set i.toNat ((r.2.2.getD i.toNat (Ty.dflt tItem)).1, (r.2.2.getD i.toNat (Ty.dflt tItem)).2.1, 1)) else r
theorem spec_l11Touch_ev {k : Nat} (hk : 4294967298 ≤ k) (r : RowT) (i : Int) (h0 : 0 ≤ i) (h1 : i < r.2.2.length) (hl : r.2.2.length ≤ 1048576) : asO RowT (evF cfg0 k 210 (r, i)) = some (rtouch r i) := by
  obtain ⟨k, rfl, hk'⟩ := exS hk
  obtain ⟨c, m, l⟩ := r
  simp only at h1 hl
  have e := spec_l10Without_ev (k := k) (by omega) l (l.getD i.toNat (Ty.dflt tItem)).1 (by omega)
  have lb := butI_len (l.getD i.toNat (Ty.dflt tItem)).1 l
  rw [spec_l11Touch_eq, e]
  simp only [app_len]
  unfold rtouch
  by_cases h2 : c = 2
  · simp (disch := (first | assumption | omega)) only [if_pos, if_neg, if_t, if_f, not_true_eq_false, not_false_eq_true, Bool.false_eq_true, Bool.true_eq_false, eq_self, decide_true, decide_false, Bool.not_true, Bool.not_false, decide_eq_true_eq, Option.bind_some, Bool.not_eq_true', decide_eq_false_iff_not, h2, lim_3, lim_4, lim_9, lim_78, lim_121, lim_128, lim_137]
  · by_cases h3 : c = 3
    · simp (disch := (first | assumption | omega)) only [if_pos, if_neg, if_t, if_f, not_true_eq_false, not_false_eq_true, Bool.false_eq_true, Bool.true_eq_false, eq_self, decide_true, decide_false, Bool.not_true, Bool.not_false, decide_eq_true_eq, Option.bind_some, Bool.not_eq_true', decide_eq_false_iff_not, h2, h3]
    · simp (disch := (first | assumption | omega)) only [if_pos, if_neg, if_t, if_f, not_true_eq_false, not_false_eq_true, Bool.false_eq_true, Bool.true_eq_false, eq_self, decide_true, decide_false, Bool.not_true, Bool.not_false, decide_eq_true_eq, Option.bind_some, Bool.not_eq_true', decide_eq_false_iff_not, h2, h3]
theorem impl_Row_asked_ev {k : Nat} (hk : 4294967298 ≤ k) (r : RowT) (i : Int) (h0 : 0 ≤ i) (h1 : i < r.2.2.length) (hl : r.2.2.length ≤ 1048576) (hn : (r.2.2.map (fun x => x.1)).Nodup) : asO RowT (evF cfg0 k 212 (r, i)) = some (rtouch r i) := by
  obtain ⟨k, rfl, hk'⟩ := exS hk
  obtain ⟨c, m, l⟩ := r
  simp only at h1 hl hn
  have e := slices_Delete__impl_Item_impl_Item_ev (k := k) (by omega) l i h0 h1 (by omega)
  have lb := butI_len (l.getD i.toNat (Ty.dflt tItem)).1 l
  rw [impl_Row_asked_eq, wrp (by omega) (by omega), e, ← del_but l i.toNat hn (by omega) rfl]
  simp only [app_len]
  unfold rtouch
  by_cases h2 : c = 2
  · simp (disch := (first | assumption | omega)) only [if_pos, if_neg, if_t, if_f, not_true_eq_false, not_false_eq_true, Bool.false_eq_true, Bool.true_eq_false, eq_self, decide_true, decide_false, Bool.not_true, Bool.not_false, decide_eq_true_eq, Option.bind_some, Bool.not_eq_true', decide_eq_false_iff_not, h2, lim_3, lim_4, lim_9, lim_78, lim_121, lim_128, lim_137]
  · by_cases h3 : c = 3
    · simp (disch := (first | assumption | omega)) only [if_pos, if_neg, if_t, if_f, not_true_eq_false, not_false_eq_true, Bool.false_eq_true, Bool.true_eq_false, eq_self, decide_true, decide_false, Bool.not_true, Bool.not_false, decide_eq_true_eq, Option.bind_some, Bool.not_eq_true', decide_eq_false_iff_not, h2, h3]
    · simp (disch := (first | assumption | omega)) only [if_pos, if_neg, if_t, if_f, not_true_eq_false, not_false_eq_true, Bool.false_eq_true, Bool.true_eq_false, eq_self, decide_true, decide_false, Bool.not_true, Bool.not_false, decide_eq_true_eq, Option.bind_some, Bool.not_eq_true', decide_eq_false_iff_not, h2, h3]
def rgetF (r : RowT) (key : ByteArray) : RowT × ByteArray × Bool :=
  if rowOk r = true then if atF key r.2.2 0 < 0 then (r, (⟨#[]⟩ : ByteArray), false) else (rtouch r (atF key r.2.2 0), (r.2.2.getD (atF key r.2.2 0).toNat (Ty.dflt tItem)).2.1, true) else (row0, (⟨#[]⟩ : ByteArray), false)
theorem spec_l11Copy_ev {k : Nat} (hk : 4294967297 ≤ k) (r : RowT) (hl : r.2.2.length ≤ 4194304) : asO RowT (evF cfg0 k 209 r) = some r := by
  obtain ⟨k, rfl, hk⟩ := exS hk
  obtain ⟨c, m, l⟩ := r
  simp only at hl
  rw [spec_l11Copy_eq]
  simp (disch := (first | assumption | omega)) only [if_pos, if_neg, if_t, if_f, not_true_eq_false, not_false_eq_true, Bool.false_eq_true, Bool.true_eq_false, eq_self, decide_true, decide_false, Bool.not_true, Bool.not_false, decide_eq_true_eq, Option.bind_some, Bool.not_eq_true', decide_eq_false_iff_not, lim_3, lim_4, lim_9, lim_78, lim_121, lim_128, lim_137, List.length_nil, List.nil_append]
theorem impl_copyRow_ev {k : Nat} (hk : 4294967298 ≤ k) (r : RowT) (hl : r.2.2.length ≤ 4194304) : asO RowT (evF cfg0 k 211 r) = some r := by
  obtain ⟨k, rfl, hk⟩ := exS hk
  obtain ⟨c, m, l⟩ := r
  simp only at hl
  rw [impl_copyRow_eq, impl_copyItems_ev (by omega) l hl]
  rfl
theorem spec_RowGet_ev {k : Nat} (hk : 4294967300 ≤ k) (r : RowT) (key : ByteArray) (hl : r.2.2.length ≤ 1048576) : asO (RowT × ByteArray × Bool) (evF cfg0 k 179 (r, key)) = some (rgetF r key) := by
  obtain ⟨k, rfl, hk'⟩ := exS hk
  have e1 := spec_RowOk_ev (k := k) (by omega) r (by omega)
  have e2 := spec_l11Copy_ev (k := k) (by omega) r (by omega)
  have e3 := spec_l10At_ev (k := k) (by omega) r.2.2 key (by omega)
  have e4 : rowOk r = true → ¬ atF key r.2.2 0 < 0 → asO RowT (evF cfg0 k 210 (r, atF key r.2.2 0)) = some (rtouch r (atF key r.2.2 0)) := fun h h' => by
    have hn := (rowOk_pr h).nd
    exact spec_l11Touch_ev (by omega) r _ (by omega) (atF_bd key r.2.2 (by omega)) hl 
  unfold rgetF
  obtain ⟨c, m, l⟩ := r
  simp only at hl
  rw [spec_RowGet_eq, e1]
  simp only [Option.bind_some]
  by_cases h : rowOk (c, m, l) = true
  · rw [h, if_pos rfl]
    simp only [Bool.not_true, Bool.false_eq_true, if_false]
    rw [e2]; simp only [Option.bind_some]
    rw [e3]; simp only [Option.bind_some, decide_eq_true_eq]
    by_cases h2 : atF key l 0 < 0
    · rw [if_pos h2, if_pos h2]
    · have h3 := atF_bd key l (by omega)
      rw [if_neg h2, if_neg h2, e4 h h2]
      simp (disch := (first | assumption | omega)) only [if_pos, if_neg, if_t, if_f, not_true_eq_false, not_false_eq_true, Bool.false_eq_true, Bool.true_eq_false, eq_self, decide_true, decide_false, Bool.not_true, Bool.not_false, decide_eq_true_eq, Option.bind_some, Bool.not_eq_true', decide_eq_false_iff_not, ]
  · rw [if_neg h, if_pos (by simpa using h)]
theorem impl_RowGet_ev {k : Nat} (hk : 4294967302 ≤ k) (r : RowT) (key : ByteArray) (hl : r.2.2.length ≤ 1048576) : asO (RowT × ByteArray × Bool) (evF cfg0 k 183 (r, key)) = some (rgetF r key) := by
  obtain ⟨k, rfl, hk'⟩ := exS hk
  have e1 := impl_RowOk_ev (k := k) (by omega) r (by omega)
  have e2 := impl_copyRow_ev (k := k) (by omega) r (by omega)
  have e3 := impl_itemAt_ev (k := k) (by omega) r.2.2 key (by omega)
  have e4 : rowOk r = true → ¬ atF key r.2.2 0 < 0 → asO RowT (evF cfg0 k 212 (r, atF key r.2.2 0)) = some (rtouch r (atF key r.2.2 0)) := fun h h' => by
    have hn := (rowOk_pr h).nd
    exact impl_Row_asked_ev (by omega) r _ (by omega) (atF_bd key r.2.2 (by omega)) hl hn
  unfold rgetF
  obtain ⟨c, m, l⟩ := r
  simp only at hl
  rw [impl_RowGet_eq, e1]
  simp only [Option.bind_some]
  by_cases h : rowOk (c, m, l) = true
  · rw [h, if_pos rfl]
    simp only [Bool.not_true, Bool.false_eq_true, if_false]
    rw [e2]; simp only [Option.bind_some]
    rw [e3]; simp only [Option.bind_some, decide_eq_true_eq]
    by_cases h2 : atF key l 0 < 0
    · rw [if_pos h2, if_pos h2]
    · have h3 := atF_bd key l (by omega)
      rw [if_neg h2, if_neg h2, e4 h h2]
      simp (disch := (first | assumption | omega)) only [if_pos, if_neg, if_t, if_f, not_true_eq_false, not_false_eq_true, Bool.false_eq_true, Bool.true_eq_false, eq_self, decide_true, decide_false, Bool.not_true, Bool.not_false, decide_eq_true_eq, Option.bind_some, Bool.not_eq_true', decide_eq_false_iff_not, ]
  · rw [if_neg h, if_pos (by simpa using h)]
end Go.Proofs.Ytgnnljpdcafdkaa.Ev

/- What a row takes in; caches of both kinds that are asked. -/
namespace Go.Proofs.Ytgnnljpdcafdkaa.Ev
open Go
set_option linter.unusedVariables false

def rotF : Nat → List Itm → List Itm
  | 0, l => l
  | _ + 1, [] => []
  | n + 1, x :: r => if x.2.2 = 1 then rotF n (r ++ [(x.1, x.2.1, 0)]) else x :: r
def ones : List Itm → Nat
  | [] => 0
  | x :: r => (if x.2.2 = 1 then 1 else 0) + ones r
theorem ones_app : ∀ (a b : List Itm), ones (a ++ b) = ones a + ones b
  | [], b => by simp [ones]
  | x :: a, b => by simp only [List.cons_append, ones, ones_app a b]; omega
theorem ones_le : ∀ (a : List Itm), ones a ≤ a.length
  | [] => by simp [ones]
  | x :: a => by have := ones_le a; simp only [ones, List.length_cons]; split <;> omega
theorem rot_len : ∀ (n : Nat) (l : List Itm), (rotF n l).length = l.length
  | 0, l => rfl
  | n + 1, [] => rfl
  | n + 1, x :: r => by
    unfold rotF; split
    · rw [rot_len n]; simp
    · rfl
def finF (r : RowT) (key val : ByteArray) (l : List Itm) : RowT × List ByteArray × Bool :=
  ((r.1, r.2.1, l.drop 1 ++ [(key, val, 0)]), [(l.getD 0 (Ty.dflt tItem)).1], true)
theorem spec_RowPut_l0_ev {k : Nat} (hk : 4294967300 ≤ k + 1) (key val : ByteArray) (r : RowT) : ∀ (n m : Nat) (l : List Itm), ones l < n → n ≤ m → l ≠ [] → l.length ≤ 1048576 → spec_RowPut_l0 k m key val r l = some (finF r key val (rotF n l)) := by
  intro n
  induction n with
  | zero => intro m l h1; omega
  | succ n ih =>
    intro m l h1 h2 h3 h4
    obtain ⟨m, rfl⟩ : ∃ j, m = j + 1 := ⟨m - 1, by omega⟩
    cases l with
    | nil => exact absurd rfl h3
    | cons x l =>
      simp only [List.length_cons] at h4
      simp only [ones] at h1
      rw [spec_RowPut_l0_eq, dr1]
      simp only [List.getD_cons_zero, List.drop_succ_cons, List.drop_zero, List.nil_append, List.length_cons, List.length_nil, rotF]
      by_cases h5 : x.2.2 = 1
      · rw [if_pos h5] at h1
        simp (disch := (first | assumption | omega)) only [if_pos, if_neg, if_t, if_f, not_true_eq_false, not_false_eq_true, Bool.false_eq_true, Bool.true_eq_false, eq_self, decide_true, decide_false, Bool.not_true, Bool.not_false, decide_eq_true_eq, Option.bind_some, Bool.not_eq_true', decide_eq_false_iff_not, h5, lim_3, lim_4, lim_9, lim_78, lim_121, lim_128, lim_137]
        exact ih m (l ++ [(x.1, x.2.1, 0)]) (by rw [ones_app]; simp [ones]; omega) (by omega) (by simp) (by simp only [List.length_append, List.length_cons, List.length_nil]; omega)
      · simp (disch := (first | assumption | omega)) only [if_pos, if_neg, if_t, if_f, not_true_eq_false, not_false_eq_true, Bool.false_eq_true, Bool.true_eq_false, eq_self, decide_true, decide_false, Bool.not_true, Bool.not_false, decide_eq_true_eq, Option.bind_some, Bool.not_eq_true', decide_eq_false_iff_not, h5, lim_3, lim_4, lim_9, lim_78, lim_121, lim_128, lim_137]
        rfl
theorem impl_RowPut_l0_ev {k : Nat} (hk : 4294967302 ≤ k + 1) (key val : ByteArray) (r : RowT) : ∀ (n m : Nat) (l : List Itm), ones l < n → n ≤ m → l ≠ [] → l.length ≤ 1048576 → impl_RowPut_l0 k m key val r l = some (finF r key val (rotF n l)) := by
  intro n
  induction n with
  | zero => intro m l h1; omega
  | succ n ih =>
    intro m l h1 h2 h3 h4
    obtain ⟨m, rfl⟩ : ∃ j, m = j + 1 := ⟨m - 1, by omega⟩
    cases l with
    | nil => exact absurd rfl h3
    | cons x l =>
      simp only [List.length_cons] at h4
      simp only [ones] at h1
      rw [impl_RowPut_l0_eq, dr1]
      simp only [List.getD_cons_zero, List.drop_succ_cons, List.drop_zero, List.nil_append, List.length_cons, List.length_nil, rotF]
      by_cases h5 : x.2.2 = 1
      · rw [if_pos h5] at h1
        simp (disch := (first | assumption | omega)) only [if_pos, if_neg, if_t, if_f, not_true_eq_false, not_false_eq_true, Bool.false_eq_true, Bool.true_eq_false, eq_self, decide_true, decide_false, Bool.not_true, Bool.not_false, decide_eq_true_eq, Option.bind_some, Bool.not_eq_true', decide_eq_false_iff_not, h5, lim_3, lim_4, lim_9, lim_78, lim_121, lim_128, lim_137]
        exact ih m (l ++ [(x.1, x.2.1, 0)]) (by rw [ones_app]; simp [ones]; omega) (by omega) (by simp) (by simp only [List.length_append, List.length_cons, List.length_nil]; omega)
      · simp (disch := (first | assumption | omega)) only [if_pos, if_neg, if_t, if_f, not_true_eq_false, not_false_eq_true, Bool.false_eq_true, Bool.true_eq_false, eq_self, decide_true, decide_false, Bool.not_true, Bool.not_false, decide_eq_true_eq, Option.bind_some, Bool.not_eq_true', decide_eq_false_iff_not, h5, lim_3, lim_4, lim_9, lim_78, lim_121, lim_128, lim_137]
        rw [impl_copyRow_ev (by omega) _ (by simp only [List.length_append, List.length_cons, List.length_nil]; omega)]; rfl
def rputF (r : RowT) (key val : ByteArray) : RowT × List ByteArray × Bool :=
  if rowOk r = true then if IOk (key, val, 0) = true then
    if 0 ≤ atF key r.2.2 0 then (rtouch (r.1, r.2.1, r.2.2.set (atF key r.2.2 0).toNat ((r.2.2.getD (atF key r.2.2 0).toNat (Ty.dflt tItem)).1, val, (r.2.2.getD (atF key r.2.2 0).toNat (Ty.dflt tItem)).2.2)) (atF key r.2.2 0), [], true)
    else if (r.2.2.length : Int) = r.2.1 then finF r key val (rotF 100 r.2.2)
    else ((r.1, r.2.1, r.2.2 ++ [(key, val, 0)]), [], true)
  else (row0, [], false) else (row0, [], false)
theorem set_keys (l : List Itm) (i : Nat) (v : ByteArray) (n : Int) (hi : i < l.length) : (l.set i ((l.getD i (Ty.dflt tItem)).1, v, n)).map (fun x => x.1) = l.map (fun x => x.1) := by
  rw [List.map_set]
  apply List.ext_getElem
  · simp
  · intro j h1 h2
    simp only [List.length_set, List.length_map] at h1
    rw [List.getElem_set]
    split
    · next e => subst e; simp [List.getD, hi]
    · rfl
theorem spec_RowPut_ev {k : Nat} (hk : 4294967300 ≤ k) (r : RowT) (key val : ByteArray) (hl : r.2.2.length ≤ 1048576) : asO (RowT × List ByteArray × Bool) (evF cfg0 k 180 (r, key, val)) = some (rputF r key val) := by
  obtain ⟨k, rfl, hk'⟩ := exS hk
  have e1 := spec_RowOk_ev (k := k) (by omega) r (by omega)
  have e2 := spec_l11Copy_ev (k := k) (by omega) r (by omega)
  have e3 := spec_l10At_ev (k := k) (by omega) r.2.2 key (by omega)
  have e5 := spec_ItemOk_ev (k := k) (by omega) (key, val, 0)
  have e4 : rowOk r = true → 0 ≤ atF key r.2.2 0 → asO RowT (evF cfg0 k 210 ((r.1, r.2.1, r.2.2.set (atF key r.2.2 0).toNat ((r.2.2.getD (atF key r.2.2 0).toNat (Ty.dflt tItem)).1, val, (r.2.2.getD (atF key r.2.2 0).toNat (Ty.dflt tItem)).2.2)), atF key r.2.2 0)) = some (rtouch (r.1, r.2.1, r.2.2.set (atF key r.2.2 0).toNat ((r.2.2.getD (atF key r.2.2 0).toNat (Ty.dflt tItem)).1, val, (r.2.2.getD (atF key r.2.2 0).toNat (Ty.dflt tItem)).2.2)) (atF key r.2.2 0)) := fun h h' => by
    have hn := (rowOk_pr h).nd
    have hb := atF_bd key r.2.2 h'
    exact spec_l11Touch_ev (by omega) _ _ h' (by simp only [List.length_set]; omega) (by simp only [List.length_set]; omega) 
  have e6 := spec_RowPut_l0_ev (k := k) hk key val r 100 k r.2.2
  unfold rputF
  obtain ⟨c, m, l⟩ := r
  simp only at hl
  rw [spec_RowPut_eq, e1]
  simp only [Option.bind_some]
  by_cases h : rowOk (c, m, l) = true
  · have hp := rowOk_pr h
    have c1 := hp.c1
    have c2 := hp.c2
    have ln := hp.ln
    simp only at c1 c2 ln
    rw [h, if_pos rfl]
    simp only [Bool.not_true, Bool.false_eq_true, if_false]
    rw [e5]; simp only [Option.bind_some]
    by_cases hI : IOk (key, val, 0) = true
    · rw [hI, if_pos rfl]
      simp only [Bool.not_true, Bool.false_eq_true, if_false]
      rw [e2]; simp only [Option.bind_some]
      rw [e3]; simp only [Option.bind_some, decide_eq_true_eq]
      by_cases h2 : 0 ≤ atF key l 0
      · have h3 := atF_bd key l h2
        rw [if_pos h2, if_pos h2, if_pos h2, if_pos h3, e4 h h2]
        rfl
      · rw [if_neg h2, if_neg h2]
        by_cases h4 : (l.length : Int) = m
        · have o := ones_le l
          rw [if_pos h4, if_pos h4]
          exact e6 (by simp only; omega) (by omega) (by intro q; simp only at q; rw [q] at h4; simp at h4; omega) hl
        · rw [if_neg h4, if_neg h4]
          simp only [app_len]
          simp (disch := (first | assumption | omega)) only [if_pos, if_neg, if_t, if_f, not_true_eq_false, not_false_eq_true, Bool.false_eq_true, Bool.true_eq_false, eq_self, decide_true, decide_false, Bool.not_true, Bool.not_false, decide_eq_true_eq, Option.bind_some, Bool.not_eq_true', decide_eq_false_iff_not, lim_3, lim_4, lim_9, lim_78, lim_121, lim_128, lim_137]
          
    · rw [if_neg hI, if_pos (by simpa using hI)]
  · rw [if_neg h, if_pos (by simpa using h)]
theorem impl_RowPut_ev {k : Nat} (hk : 4294967302 ≤ k) (r : RowT) (key val : ByteArray) (hl : r.2.2.length ≤ 1048576) : asO (RowT × List ByteArray × Bool) (evF cfg0 k 184 (r, key, val)) = some (rputF r key val) := by
  obtain ⟨k, rfl, hk'⟩ := exS hk
  have e1 := impl_RowOk_ev (k := k) (by omega) r (by omega)
  have e2 := impl_copyRow_ev (k := k) (by omega) r (by omega)
  have e3 := impl_itemAt_ev (k := k) (by omega) r.2.2 key (by omega)
  have e5 := impl_ItemOk_ev (k := k) (by omega) (key, val, 0)
  have e4 : rowOk r = true → 0 ≤ atF key r.2.2 0 → asO RowT (evF cfg0 k 212 ((r.1, r.2.1, r.2.2.set (atF key r.2.2 0).toNat ((r.2.2.getD (atF key r.2.2 0).toNat (Ty.dflt tItem)).1, val, (r.2.2.getD (atF key r.2.2 0).toNat (Ty.dflt tItem)).2.2)), atF key r.2.2 0)) = some (rtouch (r.1, r.2.1, r.2.2.set (atF key r.2.2 0).toNat ((r.2.2.getD (atF key r.2.2 0).toNat (Ty.dflt tItem)).1, val, (r.2.2.getD (atF key r.2.2 0).toNat (Ty.dflt tItem)).2.2)) (atF key r.2.2 0)) := fun h h' => by
    have hn := (rowOk_pr h).nd
    have hb := atF_bd key r.2.2 h'
    exact impl_Row_asked_ev (by omega) _ _ h' (by simp only [List.length_set]; omega) (by simp only [List.length_set]; omega) (by simp only; rw [set_keys _ _ _ _ (by omega)]; exact hn)
  have e6 := impl_RowPut_l0_ev (k := k) hk key val r 100 k r.2.2
  unfold rputF
  obtain ⟨c, m, l⟩ := r
  simp only at hl
  rw [impl_RowPut_eq, e1]
  simp only [Option.bind_some]
  by_cases h : rowOk (c, m, l) = true
  · have hp := rowOk_pr h
    have c1 := hp.c1
    have c2 := hp.c2
    have ln := hp.ln
    simp only at c1 c2 ln
    rw [h, if_pos rfl]
    simp only [Bool.not_true, Bool.false_eq_true, if_false]
    rw [e5]; simp only [Option.bind_some]
    by_cases hI : IOk (key, val, 0) = true
    · rw [hI, if_pos rfl]
      simp only [Bool.not_true, Bool.false_eq_true, if_false]
      rw [e2]; simp only [Option.bind_some]
      rw [e3]; simp only [Option.bind_some, decide_eq_true_eq]
      by_cases h2 : 0 ≤ atF key l 0
      · have h3 := atF_bd key l h2
        rw [if_pos h2, if_pos h2, if_pos h2, if_pos h3, e4 h h2]
        rfl
      · rw [if_neg h2, if_neg h2]
        by_cases h4 : (l.length : Int) = m
        · have o := ones_le l
          rw [if_pos h4, if_pos h4]
          exact e6 (by simp only; omega) (by omega) (by intro q; simp only at q; rw [q] at h4; simp at h4; omega) hl
        · rw [if_neg h4, if_neg h4]
          simp only [app_len]
          simp (disch := (first | assumption | omega)) only [if_pos, if_neg, if_t, if_f, not_true_eq_false, not_false_eq_true, Bool.false_eq_true, Bool.true_eq_false, eq_self, decide_true, decide_false, Bool.not_true, Bool.not_false, decide_eq_true_eq, Option.bind_some, Bool.not_eq_true', decide_eq_false_iff_not, lim_3, lim_4, lim_9, lim_78, lim_121, lim_128, lim_137]
          rw [impl_copyRow_ev (by omega) _ (by simp only [List.length_append, List.length_cons, List.length_nil]; omega)]; rfl
    · rw [if_neg hI, if_pos (by simpa using hI)]
  · rw [if_neg h, if_pos (by simpa using h)]

/-! ### caches of both kinds -/
abbrev StS := Thr × RowT
def newF (s : Stp) : StS := if s.1 = 4 then ((if TOk (s.2.1, s.2.2, [], [], []) = true then (s.2.1, s.2.2, [], [], []) else thr0), row0) else (thr0, (if rowOk (s.1, s.2.1, []) = true then (s.1, s.2.1, []) else row0))
def askF (s : Stp) (x : StS) (key : ByteArray) : StS × Bool × Int :=
  if s.1 = 4 then
    if (getF x.1 key).2.2 = true then (((getF x.1 key).1, row0), true, 0) else (((putF x.1 key (⟨#[]⟩ : ByteArray)).1, row0), false, ((putF x.1 key (⟨#[]⟩ : ByteArray)).2.1.length : Int))
  else
    if (rgetF x.2 key).2.2 = true then ((thr0, (rgetF x.2 key).1), true, 0) else ((thr0, (rputF x.2 key (⟨#[]⟩ : ByteArray)).1), false, ((rputF x.2 key (⟨#[]⟩ : ByteArray)).2.1.length : Int))
def goF (s : Stp) : List ByteArray → StS → List Bool → Int → StS × List Bool × Int
  | [], x, hits, gone => (x, hits, gone)
  | key :: l, x, hits, gone => goF s l (askF s x key).1 (hits ++ [(askF s x key).2.1]) (gone + (askF s x key).2.2)
def SmS (x : StS) : Prop := Sm x.1 ∧ x.2.2.2.length ≤ 1048576
structure Inv (s : Stp) (x : StS) : Prop where
  sm : Sm x.1
  sr : x.2.2.2.length ≤ 1048576
  three : s.1 = 4 → x.2 = row0 ∧ (x.1 = thr0 ∨ 0 < x.1.1)
  row : s.1 ≠ 4 → x.1 = thr0
theorem sm0 : Sm thr0 := ⟨by simp, by simp, by simp⟩
theorem new_inv (s : Stp) : Inv s (newF s) := by
  unfold newF
  by_cases h : s.1 = 4
  · rw [if_pos h]
    refine ⟨?_, by simp, fun _ => ⟨rfl, ?_⟩, fun q => absurd h q⟩
    · simp only; split
      · exact ⟨by simp, by simp, by simp⟩
      · exact sm0
    · simp only; split
      · next q => right; have := ((tok_iff _).1 q).c1; exact this
      · left; rfl
  · rw [if_neg h]
    refine ⟨sm0, ?_, fun q => absurd q h, fun _ => rfl⟩
    simp only; split <;> simp
theorem rtouch_len (r : RowT) (i : Int) : (rtouch r i).2.2.length ≤ r.2.2.length + 1 := by
  unfold rtouch
  have := butI_len (r.2.2.getD i.toNat (Ty.dflt tItem)).1 r.2.2
  split
  · simp only [List.length_append, List.length_cons, List.length_nil]; omega
  · split
    · simp only [List.length_set]; omega
    · omega
theorem rget_sm (r : RowT) (key : ByteArray) : (rgetF r key).1.2.2.length ≤ 1048576 := by
  unfold rgetF
  split
  · next h =>
    have hp := rowOk_pr h
    have c2 := hp.c2
    have ln := hp.ln
    split
    · simp only; omega
    · have := rtouch_len r (atF key r.2.2 0); simp only; omega
  · simp
theorem rput_sm (r : RowT) (key val : ByteArray) : (rputF r key val).1.2.2.length ≤ 1048576 ∧ (rputF r key val).2.1.length ≤ 1 := by
  unfold rputF
  split
  · next h =>
    have hp := rowOk_pr h
    have c2 := hp.c2
    have ln := hp.ln
    split
    · split
      · refine ⟨Nat.le_trans (rtouch_len _ _) ?_, by simp⟩
        simp only [List.length_set]; omega
      · split
        · unfold finF
          have := rot_len 100 r.2.2
          simp only [List.length_append, List.length_drop, List.length_cons, List.length_nil]
          omega
        · simp only [List.length_append, List.length_cons, List.length_nil]; omega
    · simp
  · simp
theorem ask_inv {s : Stp} {x : StS} (h : Inv s x) (key : ByteArray) : Inv s (askF s x key).1 ∧ 0 ≤ (askF s x key).2.2 ∧ (askF s x key).2.2 ≤ 1 := by
  unfold askF
  by_cases h4 : s.1 = 4
  · rw [if_pos h4]
    split
    · exact ⟨⟨get_sm h.sm key, by simp, fun _ => ⟨rfl, get_cap key⟩, fun q => absurd h4 q⟩, by simp, by simp⟩
    · have := put_gone x.1 key (⟨#[]⟩ : ByteArray)
      exact ⟨⟨put_sm h.sm key (⟨#[]⟩ : ByteArray), by simp, fun _ => ⟨rfl, put_cap key (⟨#[]⟩ : ByteArray)⟩, fun q => absurd h4 q⟩, by simp, by simp only; omega⟩
  · rw [if_neg h4]
    split
    · exact ⟨⟨sm0, rget_sm _ _, fun q => absurd q h4, fun _ => rfl⟩, by simp, by simp⟩
    · have := rput_sm x.2 key (⟨#[]⟩ : ByteArray)
      exact ⟨⟨sm0, this.1, fun q => absurd q h4, fun _ => rfl⟩, by simp, by simp only; omega⟩
theorem spec_l12New_ev {k : Nat} (hk : 4294967301 ≤ k) (s : Stp) : asO StS (evF cfg0 k 146 s) = some (newF s) := by
  obtain ⟨k, rfl, hk'⟩ := exS hk
  obtain ⟨a, b, c⟩ := s
  rw [spec_l12New_eq, spec_RowNew_ev (by omega), spec_ThreeNew_ev (by omega)]
  unfold newF
  simp only [Option.bind_some, decide_eq_true_eq]
  by_cases h : a = 4
  · rw [if_pos h, if_pos h]; split <;> rfl
  · rw [if_neg h, if_neg h]; split <;> rfl
theorem impl_cacheOf_ev {k : Nat} (hk : 4294967303 ≤ k) (s : Stp) : asO (RowT × Thr) (evF cfg0 k 151 s) = some ((newF s).2, (newF s).1) := by
  obtain ⟨k, rfl, hk'⟩ := exS hk
  obtain ⟨a, b, c⟩ := s
  rw [impl_cacheOf_eq, impl_RowNew_ev (by omega), impl_ThreeNew_ev (by omega)]
  unfold newF
  simp only [Option.bind_some, decide_eq_true_eq]
  by_cases h : a = 4
  · rw [if_pos h, if_pos h]; split <;> rfl
  · rw [if_neg h, if_neg h]; split <;> rfl
theorem spec_l12Ask_ev {k : Nat} (hk : 4294967303 ≤ k) (s : Stp) (x : StS) (key : ByteArray) (h : Inv s x) : asO (StS × Bool × Int) (evF cfg0 k 147 (s, x, key)) = some (askF s x key) := by
  obtain ⟨k, rfl, hk'⟩ := exS hk
  have e1 := spec_Get_ev (k := k) (by omega) x.1 key h.sm
  have e2 := spec_Put_ev (k := k) (by omega) x.1 key (⟨#[]⟩ : ByteArray) h.sm
  have e3 := spec_RowGet_ev (k := k) (by omega) x.2 key h.sr
  have e4 := spec_RowPut_ev (k := k) (by omega) x.2 key (⟨#[]⟩ : ByteArray) h.sr
  unfold askF
  obtain ⟨a, b, c⟩ := s
  obtain ⟨⟨t1, t2, t3, t4, t5⟩, r1, r2, r3⟩ := x
  rw [spec_l12Ask_eq, e1, e3]
  simp only [Option.bind_some, decide_eq_true_eq]
  rw [e2, e4]
  simp only [Option.bind_some]
  by_cases h4 : a = 4
  · rw [if_pos h4, if_pos h4]
    by_cases h5 : (getF (t1, t2, t3, t4, t5) key).2.2 = true
    · rw [if_pos h5, if_neg (by rw [h5]; simp), h5]; rfl
    · rw [if_neg h5, if_pos (by simpa using h5)]
      simp only [Bool.not_eq_true] at h5; rw [h5]
  · rw [if_neg h4, if_neg h4]
    by_cases h5 : (rgetF (r1, r2, r3) key).2.2 = true
    · rw [if_pos h5, if_neg (by rw [h5]; simp), h5]; rfl
    · rw [if_neg h5, if_pos (by simpa using h5)]
      simp only [Bool.not_eq_true] at h5; rw [h5]
theorem get_zero (key : ByteArray) : getF thr0 key = (thr0, (⟨#[]⟩ : ByteArray), false) := by
  unfold getF; rw [if_neg]; intro h; have := ((tok_iff _).1 h).c1; simp at this
theorem put_zero (key val : ByteArray) : putF thr0 key val = (thr0, [], false) := by
  unfold putF; rw [if_neg]; intro h; have := ((tok_iff _).1 h).c1; simp at this
theorem rget_zero (key : ByteArray) : rgetF row0 key = (row0, (⟨#[]⟩ : ByteArray), false) := by
  unfold rgetF; rw [if_neg]; intro h; have := (rowOk_pr h).c1; simp at this
theorem rput_zero (key val : ByteArray) : rputF row0 key val = (row0, [], false) := by
  unfold rputF; rw [if_neg]; intro h; have := (rowOk_pr h).c1; simp at this
theorem impl_cache_ask_ev {k : Nat} (hk : 4294967303 ≤ k) (s : Stp) (x : StS) (key : ByteArray) (h : Inv s x) : asO ((Bool × Int) × RowT × Thr) (evF cfg0 k 152 ((x.2, x.1), key)) = some ((askF s x key).2, (askF s x key).1.2, (askF s x key).1.1) := by
  obtain ⟨k, rfl, hk'⟩ := exS hk
  have e1 := impl_Get_ev (k := k) (by omega) x.1 key h.sm
  have e2 := impl_Put_ev (k := k) (by omega) x.1 key (⟨#[]⟩ : ByteArray) h.sm
  have e3 := impl_RowGet_ev (k := k) (by omega) x.2 key h.sr
  have e4 := impl_RowPut_ev (k := k) (by omega) x.2 key (⟨#[]⟩ : ByteArray) h.sr
  unfold askF
  obtain ⟨a, b, c⟩ := s
  obtain ⟨⟨t1, t2, t3, t4, t5⟩, r1, r2, r3⟩ := x
  rw [impl_cache_ask_eq, e1, e3]
  simp only [Option.bind_some, decide_eq_true_eq]
  rw [e2, e4]
  simp only [Option.bind_some]
  by_cases h4 : a = 4
  · obtain ⟨q1, q2⟩ := h.three h4
    simp only at q1 q2
    rw [if_pos h4]
    rcases q2 with q2 | q2
    · rw [q1, q2, get_zero, put_zero, rget_zero, rput_zero]
      cases q2
      simp
    · rw [if_pos q2, q1]
      cases q1
      by_cases h5 : (getF (t1, t2, t3, t4, t5) key).2.2 = true
      · rw [if_pos h5, if_neg (by rw [h5]; simp), h5]; rfl
      · rw [if_neg h5, if_pos (by simpa using h5)]
        simp only [Bool.not_eq_true] at h5; rw [h5]
  · have q := h.row h4
    simp only at q
    cases q
    rw [if_neg h4, if_neg (by omega)]
    by_cases h5 : (rgetF (r1, r2, r3) key).2.2 = true
    · rw [if_pos h5, if_neg (by rw [h5]; simp), h5]; rfl
    · rw [if_neg h5, if_pos (by simpa using h5)]
      simp only [Bool.not_eq_true] at h5; rw [h5]
theorem go_res (s : Stp) : ∀ (l : List ByteArray) (x : StS) (hits : List Bool) (gone : Int), Inv s x → 0 ≤ gone → Inv s (goF s l x hits gone).1 ∧ (goF s l x hits gone).2.1.length = hits.length + l.length ∧ 0 ≤ (goF s l x hits gone).2.2 ∧ (goF s l x hits gone).2.2 ≤ gone + l.length
  | [], x, hits, gone, h, h0 => ⟨h, by simp [goF], h0, by simp [goF]⟩
  | key :: l, x, hits, gone, h, h0 => by
    unfold goF
    have ha := ask_inv h key
    have := go_res s l (askF s x key).1 (hits ++ [(askF s x key).2.1]) (gone + (askF s x key).2.2) ha.1 (by omega)
    simp only [List.length_append, List.length_cons, List.length_nil] at this ⊢
    exact ⟨this.1, by omega, this.2.2.1, by omega⟩
theorem spec_l12Go_l0_ev {k : Nat} (hk : 4294967303 ≤ k) (s : Stp) (l : List ByteArray) (hl : l.length ≤ 4194304) : ∀ (m : Nat) (i : Int) (x : StS) (hits : List Bool) (gone : Int), 0 ≤ i → i ≤ l.length → l.length < i + m → hits.length ≤ i → 0 ≤ gone → gone ≤ i → Inv s x →
    spec_l12Go_l0 k m s.1 s.2.1 s.2.2 l gone i x.1.1 x.1.2.1 x.2.1 x.2.2.1 hits x.1.2.2.1 x.1.2.2.2.1 x.1.2.2.2.2 x.2.2.2 = some (goF s (l.drop i.toNat) x hits gone) := by
  intro m
  induction m with
  | zero => intro i x hits gone h0 h1 h2; omega
  | succ m ih =>
    intro i x hits gone h0 h1 h2 h3 h4 h5 h6
    rw [spec_l12Go_l0_eq]
    by_cases h : i < (l.length : Int)
    · have e : asO (StS × Bool × Int) (evF cfg0 k 147 ((s.1, s.2.1, s.2.2), ((x.1.1, x.1.2.1, x.1.2.2.1, x.1.2.2.2.1, x.1.2.2.2.2), x.2.1, x.2.2.1, x.2.2.2), l.getD i.toNat (⟨#[]⟩ : ByteArray))) = some (askF s x (l.getD i.toNat (⟨#[]⟩ : ByteArray))) := spec_l12Ask_ev (k := k) hk s x (l.getD i.toNat (⟨#[]⟩ : ByteArray)) h6
      have ha := ask_inv h6 (l.getD i.toNat (⟨#[]⟩ : ByteArray))
      rw [dropC (d := (⟨#[]⟩ : ByteArray)) h0 h, e]
      unfold goF
      have w : IntKind.wrap .i64 (i + 1) = i + 1 := wrp (by omega) (by omega)
      have w2 : IntKind.wrap .i64 (gone + (askF s x (l.getD i.toNat (⟨#[]⟩ : ByteArray))).2.2) = gone + (askF s x (l.getD i.toNat (⟨#[]⟩ : ByteArray))).2.2 := wrp (by omega) (by omega)
      simp (disch := (first | assumption | omega)) only [if_pos, if_neg, if_t, if_f, not_true_eq_false, not_false_eq_true, Bool.false_eq_true, Bool.true_eq_false, eq_self, decide_true, decide_false, Bool.not_true, Bool.not_false, decide_eq_true_eq, Option.bind_some, Bool.not_eq_true', decide_eq_false_iff_not, w, w2, app_len, lim_3, lim_4, lim_9, lim_78, lim_121, lim_128, lim_137]
      exact ih (i + 1) _ _ _ (by omega) (by omega) (by omega) (by simp only [List.length_append, List.length_cons, List.length_nil]; omega) (by omega) (by omega) ha.1
    · rw [dropN h0 h]
      simp (disch := (first | assumption | omega)) only [if_pos, if_neg, if_t, if_f, not_true_eq_false, not_false_eq_true, Bool.false_eq_true, Bool.true_eq_false, eq_self, decide_true, decide_false, Bool.not_true, Bool.not_false, decide_eq_true_eq, Option.bind_some, Bool.not_eq_true', decide_eq_false_iff_not, h, goF]
theorem impl_asked_l0_ev {k : Nat} (hk : 4294967303 ≤ k) (s : Stp) (l : List ByteArray) (hl : l.length ≤ 4194304) : ∀ (m : Nat) (i : Int) (x : StS) (hits : List Bool) (gone : Int), 0 ≤ i → i ≤ l.length → l.length < i + m → hits.length ≤ i → 0 ≤ gone → gone ≤ i → Inv s x →
    impl_asked_l0 k m l gone i x.2.1 x.2.2.1 x.1.1 x.1.2.1 hits x.2.2.2 x.1.2.2.1 x.1.2.2.2.1 x.1.2.2.2.2 = some (((goF s (l.drop i.toNat) x hits gone).1.2, (goF s (l.drop i.toNat) x hits gone).1.1), (goF s (l.drop i.toNat) x hits gone).2) := by
  intro m
  induction m with
  | zero => intro i x hits gone h0 h1 h2; omega
  | succ m ih =>
    intro i x hits gone h0 h1 h2 h3 h4 h5 h6
    rw [impl_asked_l0_eq]
    by_cases h : i < (l.length : Int)
    · have e : asO ((Bool × Int) × RowT × Thr) (evF cfg0 k 152 (((x.2.1, x.2.2.1, x.2.2.2), x.1.1, x.1.2.1, x.1.2.2.1, x.1.2.2.2.1, x.1.2.2.2.2), l.getD i.toNat (⟨#[]⟩ : ByteArray))) = some ((askF s x (l.getD i.toNat (⟨#[]⟩ : ByteArray))).2, (askF s x (l.getD i.toNat (⟨#[]⟩ : ByteArray))).1.2, (askF s x (l.getD i.toNat (⟨#[]⟩ : ByteArray))).1.1) := impl_cache_ask_ev (k := k) hk s x (l.getD i.toNat (⟨#[]⟩ : ByteArray)) h6
      have ha := ask_inv h6 (l.getD i.toNat (⟨#[]⟩ : ByteArray))
      rw [dropC (d := (⟨#[]⟩ : ByteArray)) h0 h, e]
      unfold goF
      have w : IntKind.wrap .i64 (i + 1) = i + 1 := wrp (by omega) (by omega)
      have w2 : IntKind.wrap .i64 (gone + (askF s x (l.getD i.toNat (⟨#[]⟩ : ByteArray))).2.2) = gone + (askF s x (l.getD i.toNat (⟨#[]⟩ : ByteArray))).2.2 := wrp (by omega) (by omega)
      simp (disch := (first | assumption | omega)) only [if_pos, if_neg, if_t, if_f, not_true_eq_false, not_false_eq_true, Bool.false_eq_true, Bool.true_eq_false, eq_self, decide_true, decide_false, Bool.not_true, Bool.not_false, decide_eq_true_eq, Option.bind_some, Bool.not_eq_true', decide_eq_false_iff_not, w, w2, app_len, lim_3, lim_4, lim_9, lim_78, lim_121, lim_128, lim_137]
      exact ih (i + 1) _ _ _ (by omega) (by omega) (by omega) (by simp only [List.length_append, List.length_cons, List.length_nil]; omega) (by omega) (by omega) ha.1
    · rw [dropN h0 h]
      simp (disch := (first | assumption | omega)) only [if_pos, if_neg, if_t, if_f, not_true_eq_false, not_false_eq_true, Bool.false_eq_true, Bool.true_eq_false, eq_self, decide_true, decide_false, Bool.not_true, Bool.not_false, decide_eq_true_eq, Option.bind_some, Bool.not_eq_true', decide_eq_false_iff_not, h, goF]
theorem spec_l12Go_ev {k : Nat} (hk : 4294967304 ≤ k) (s : Stp) (l : List ByteArray) (hl : l.length ≤ 4194304) : asO (StS × List Bool × Int) (evF cfg0 k 82 (s, l)) = some (goF s l (newF s) [] 0) := by
  obtain ⟨k, rfl, hk'⟩ := exS hk
  have e := spec_l12New_ev (k := k) (by omega) s
  have e2 := spec_l12Go_l0_ev (k := k) (by omega) s l hl k 0 (newF s) [] 0 (by omega) (by omega) (by omega) (by simp) (by omega) (by omega) (new_inv s)
  obtain ⟨a, b, c⟩ := s
  rw [spec_l12Go_eq, e]
  simp only [Option.bind_some]
  exact e2
theorem impl_asked_ev {k : Nat} (hk : 4294967304 ≤ k) (s : Stp) (l : List ByteArray) (hl : l.length ≤ 4194304) : asO ((RowT × Thr) × List Bool × Int) (evF cfg0 k 85 (s, l)) = some (((goF s l (newF s) [] 0).1.2, (goF s l (newF s) [] 0).1.1), (goF s l (newF s) [] 0).2) := by
  obtain ⟨k, rfl, hk'⟩ := exS hk
  have e := impl_cacheOf_ev (k := k) (by omega) s
  have e2 := impl_asked_l0_ev (k := k) (by omega) s l hl k 0 (newF s) [] 0 (by omega) (by omega) (by omega) (by simp) (by omega) (by omega) (new_inv s)
  obtain ⟨a, b, c⟩ := s
  rw [impl_asked_eq, e]
  simp only [Option.bind_some]
  exact e2
def aksOk (l : List ByteArray) : Bool := aksF l && decide ((l.length : Int) ≤ 300)
def hitsF (s : Stp) (l : List ByteArray) : List Bool := if setOk s = true then if aksOk l = true then (goF s l (newF s) [] 0).2.1 else [] else []
theorem spec_HitsOf_ev {k : Nat} (hk : 4294967305 ≤ k) (s : Stp) (l : List ByteArray) (hl : l.length ≤ 4194304) : asO (List Bool) (evF cfg0 k 17 (s, l)) = some (hitsF s l) := by
  obtain ⟨k, rfl, hk'⟩ := exS hk
  have e1 := spec_SetupOk_ev (k := k) (by omega) s
  have e2 := spec_AsksOk_ev (k := k) (by omega) l hl
  have e3 := spec_l12Go_ev (k := k) (by omega) s l hl
  unfold hitsF aksOk
  obtain ⟨a, b, c⟩ := s
  rw [spec_HitsOf_eq, e1]
  simp only [Option.bind_some]
  by_cases h1 : setOk (a, b, c) = true
  · rw [if_pos h1, h1, e2]
    simp only [Option.bind_some, Bool.not_true, Bool.false_eq_true, if_false]
    by_cases h2 : (aksF l && decide ((l.length : Int) ≤ 300)) = true
    · rw [if_pos h2, h2, e3]
      simp
    · rw [if_neg h2, if_pos (by simpa only [Bool.not_eq_true, Bool.not_eq_true'] using h2)]
  · rw [if_neg h1, if_pos (by simpa using h1)]
theorem impl_HitsOf_ev {k : Nat} (hk : 4294967305 ≤ k) (s : Stp) (l : List ByteArray) (hl : l.length ≤ 4194304) : asO (List Bool) (evF cfg0 k 20 (s, l)) = some (hitsF s l) := by
  obtain ⟨k, rfl, hk'⟩ := exS hk
  have e1 := impl_SetupOk_ev (k := k) (by omega) s
  have e2 := impl_AsksOk_ev (k := k) (by omega) l hl
  have e3 := impl_asked_ev (k := k) (by omega) s l hl
  unfold hitsF aksOk
  obtain ⟨a, b, c⟩ := s
  rw [impl_HitsOf_eq, e1]
  simp only [Option.bind_some]
  by_cases h1 : setOk (a, b, c) = true
  · rw [if_pos h1, h1, e2]
    simp only [Option.bind_some, Bool.not_true, Bool.false_eq_true, if_false]
    by_cases h2 : (aksF l && decide ((l.length : Int) ≤ 300)) = true
    · rw [if_pos h2, h2, e3]
      simp
    · rw [if_neg h2, if_pos (by simpa only [Bool.not_eq_true, Bool.not_eq_true'] using h2)]
  · rw [if_neg h1, if_pos (by simpa using h1)]
theorem hits_len (s : Stp) (l : List ByteArray) : (hitsF s l).length ≤ l.length := by
  unfold hitsF
  split
  · split
    · have := (go_res s l (newF s) [] 0 (new_inv s) (by omega)).2.1
      simp only [List.length_nil] at this; omega
    · simp
  · simp
end Go.Proofs.Ytgnnljpdcafdkaa.Ev
