/- A part of a proof: an evaluator of the program's functions over plain values, and what it shows. -/
import Derived.Test.YtgnnljpdcafdkaaEv5
import Derived.WideShapes
set_option linter.unusedVariables false
set_option linter.unusedSimpArgs false
set_option linter.unusedSectionVars false
/- Lists of items: without one, touched; what is put out of a queue. -/
namespace Go.Proofs.Ytgnnljpdcafdkaa.Ev
open Go
set_option linter.unusedVariables false

def butI (key : ByteArray) (l : List Itm) : List Itm := l.filter fun x => !decide (x.1 = key)
theorem butI_len (key : ByteArray) (l : List Itm) : (butI key l).length ≤ l.length := List.length_filter_le _ _
theorem spec_l10Without_l0_ev {k : Nat} (l : List Itm) (h : ByteArray) (hl : l.length ≤ 4194304) : ∀ (m : Nat) (i : Int) (acc : List Itm), 0 ≤ i → i ≤ l.length → l.length < i + m → acc.length ≤ i → spec_l10Without_l0 k m l h i acc = some (acc ++ butI h (l.drop i.toNat)) := by
  intro m
  induction m with
  | zero => intro i acc h0 h1 h2; omega
  | succ m ih =>
    intro i acc h0 h1 h2 hacc
    rw [spec_l10Without_l0_eq]
    by_cases h3 : i < (l.length : Int)
    · rw [dropC (d := Ty.dflt tItem) h0 h3, seq_dec]
      by_cases h4 : (l.getD i.toNat (Ty.dflt tItem)).1 = h
      · simp (disch := (first | assumption | omega)) only [if_pos, if_neg, if_t, if_f, not_true_eq_false, not_false_eq_true, Bool.false_eq_true, Bool.true_eq_false, eq_self, decide_true, decide_false, Bool.not_true, Bool.not_false, decide_eq_true_eq, Option.bind_some, Bool.not_eq_true', decide_eq_false_iff_not, h4, wrp]
        rw [ih (i + 1) acc (by omega) (by omega) (by omega) (by omega)]
        simp only [butI]
        rw [List.filter_cons_of_neg (by simp only [decide_eq_true h4]; simp)]
      · have e : acc.length + [l.getD i.toNat (Ty.dflt tItem)].length ≤ 4194305 := by simp only [List.length_cons, List.length_nil]; omega
        simp (disch := (first | assumption | omega)) only [if_pos, if_neg, if_t, if_f, not_true_eq_false, not_false_eq_true, Bool.false_eq_true, Bool.true_eq_false, eq_self, decide_true, decide_false, Bool.not_true, Bool.not_false, decide_eq_true_eq, Option.bind_some, Bool.not_eq_true', decide_eq_false_iff_not, h4, wrp, lim_3, lim_4, lim_9, lim_78, lim_121, lim_128, lim_137]
        rw [ih (i + 1) (acc ++ [l.getD i.toNat (Ty.dflt tItem)]) (by omega) (by omega) (by omega) (by rw [List.length_append]; simp only [List.length_cons, List.length_nil]; omega)]
        simp only [butI]
        rw [List.filter_cons_of_pos (by simp only [decide_eq_false h4, Bool.not_false]), List.append_assoc]; rfl
    · rw [dropN h0 h3]
      simp (disch := (first | assumption | omega)) only [if_pos, if_neg, if_t, if_f, not_true_eq_false, not_false_eq_true, Bool.false_eq_true, Bool.true_eq_false, eq_self, decide_true, decide_false, Bool.not_true, Bool.not_false, decide_eq_true_eq, Option.bind_some, Bool.not_eq_true', decide_eq_false_iff_not, h3]; simp [butI]
theorem spec_l10Without_ev {k : Nat} (hk : 4294967297 ≤ k) (l : List Itm) (h : ByteArray) (hl : l.length ≤ 4194304) : asO (List Itm) (evF cfg0 k 189 (l, h)) = some (butI h l) := by
  obtain ⟨k, rfl, hk⟩ := exS hk
  rw [spec_l10Without_eq]
  simpa using spec_l10Without_l0_ev (k := k) l h hl k 0 [] (by omega) (by omega) (by omega) (by simp)

theorem atF_split (h : ByteArray) : ∀ (l : List Itm) (i : Int), 0 ≤ i → (atF h l i = -1 → butI h l = l) ∧ (atF h l i ≠ -1 → i ≤ atF h l i ∧ atF h l i < i + l.length ∧ l.take (atF h l i - i).toNat ++ butI h (l.drop (atF h l i - i + 1).toNat) = butI h l)
  | [], i, hi => ⟨fun _ => rfl, fun e => absurd rfl e⟩
  | x :: r, i, hi => by
    have := atF_split h r (i + 1) (by omega)
    unfold atF
    by_cases e : x.1 = h
    · simp only [if_pos e]
      refine ⟨fun q => absurd q (by omega), fun _ => ⟨by omega, by simp only [List.length_cons]; omega, ?_⟩⟩
      rw [Int.sub_self]
      simp [butI, e]
    · simp only [if_neg e]
      have hb : butI h (x :: r) = x :: butI h r := by
        simp only [butI]; rw [List.filter_cons_of_pos (by simp only [decide_eq_false e, Bool.not_false])]
      refine ⟨fun q => by rw [hb, this.1 q], fun q => ?_⟩
      have t3 := this.2 q
      have e1 : (atF h r (i + 1) - i).toNat = (atF h r (i + 1) - (i + 1)).toNat + 1 := by omega
      have e2 : (atF h r (i + 1) - i + 1).toNat = (atF h r (i + 1) - (i + 1) + 1).toNat + 1 := by omega
      refine ⟨by omega, by simp only [List.length_cons]; omega, ?_⟩
      rw [e1, e2, List.take_succ_cons, List.drop_succ_cons, hb, List.cons_append, t3.2.2]
theorem atF_bd (h : ByteArray) (l : List Itm) (hp : 0 ≤ atF h l 0) : atF h l 0 < l.length := by
  have := (atF_split h l 0 (by omega)).2 (by omega); omega
theorem slices_IndexFunc__impl_Item_impl_Item_impl_Drop_1_l0_ev {k : Nat} (hk : 4294967297 ≤ k) (l : List Itm) (key : ByteArray) (hl : l.length ≤ 4194304) : ∀ (m : Nat) (i : Int), 0 ≤ i → i ≤ l.length → l.length < i + m → slices_IndexFunc__impl_Item_impl_Item_impl_Drop_1_l0 k m l key i = some (atF key (l.drop i.toNat) i) := by
  intro m
  induction m with
  | zero => intro i h0 h1 h2; omega
  | succ m ih =>
    intro i h0 h1 h2
    rw [slices_IndexFunc__impl_Item_impl_Item_impl_Drop_1_l0_eq]
    by_cases h : i < (l.length : Int)
    · rw [dropC (d := Ty.dflt tItem) h0 h, impl_Drop_1_ev hk]
      by_cases h4 : (l.getD i.toNat (Ty.dflt tItem)).1 = key
      · simp (disch := (first | assumption | omega)) only [if_pos, if_neg, if_t, if_f, not_true_eq_false, not_false_eq_true, Bool.false_eq_true, Bool.true_eq_false, eq_self, decide_true, decide_false, Bool.not_true, Bool.not_false, decide_eq_true_eq, Option.bind_some, Bool.not_eq_true', decide_eq_false_iff_not, atF, h4]
      · simp (disch := (first | assumption | omega)) only [if_pos, if_neg, if_t, if_f, not_true_eq_false, not_false_eq_true, Bool.false_eq_true, Bool.true_eq_false, eq_self, decide_true, decide_false, Bool.not_true, Bool.not_false, decide_eq_true_eq, Option.bind_some, Bool.not_eq_true', decide_eq_false_iff_not, atF, h4, wrp]
        exact ih (i + 1) (by omega) (by omega) (by omega)
    · rw [dropN h0 h]
      simp (disch := (first | assumption | omega)) only [if_pos, if_neg, if_t, if_f, not_true_eq_false, not_false_eq_true, Bool.false_eq_true, Bool.true_eq_false, eq_self, decide_true, decide_false, Bool.not_true, Bool.not_false, decide_eq_true_eq, Option.bind_some, Bool.not_eq_true', decide_eq_false_iff_not, atF, h]
theorem slices_IndexFunc__impl_Item_impl_Item_impl_Drop_1_ev {k : Nat} (hk : 4294967298 ≤ k) (l : List Itm) (key : ByteArray) (hl : l.length ≤ 4194304) : asO Int (evF cfg0 k 207 (l, 194, key)) = some (atF key l 0) := by
  obtain ⟨k, rfl, hk⟩ := exS hk
  rw [slices_IndexFunc__impl_Item_impl_Item_impl_Drop_1_eq]
  simpa using slices_IndexFunc__impl_Item_impl_Item_impl_Drop_1_l0_ev (k := k) (by omega) l key hl k 0 (by omega) (by omega) (by omega)
theorem slices_DeleteFunc__impl_Item_impl_Item_l0_ev {k : Nat} (hk : 4294967297 ≤ k) (h : ByteArray) : ∀ (m : Nat) (i j : Int) (l : List Itm), l.length ≤ 4194304 → 0 ≤ i → i ≤ j → j ≤ l.length → l.length < j + m → slices_DeleteFunc__impl_Item_impl_Item_l0 k m h i j l = some (l.take i.toNat ++ butI h (l.drop j.toNat)) := by
  intro m
  induction m with
  | zero => intro i j l hl h0 h1 h2; omega
  | succ m ih =>
    intro i j l hl h0 h1 h2 h2'
    rw [slices_DeleteFunc__impl_Item_impl_Item_l0_eq]
    by_cases h3 : j < (l.length : Int)
    · have ei : IntKind.wrap .i64 (i + 1) = i + 1 := wrp (by omega) (by omega)
      have ej : IntKind.wrap .i64 (j + 1) = j + 1 := wrp (by omega) (by omega)
      rw [dropC (d := Ty.dflt tItem) (by omega) h3, impl_Drop_1_ev hk]
      by_cases h4 : (l.getD j.toNat (Ty.dflt tItem)).1 = h
      · simp (disch := (first | assumption | omega)) only [if_pos, if_neg, if_t, if_f, not_true_eq_false, not_false_eq_true, Bool.false_eq_true, Bool.true_eq_false, eq_self, decide_true, decide_false, Bool.not_true, Bool.not_false, decide_eq_true_eq, Option.bind_some, Bool.not_eq_true', decide_eq_false_iff_not, h4, ei, ej]
        rw [ih i (j + 1) l (by omega) (by omega) (by omega) (by omega) (by omega)]
        simp only [butI]
        rw [List.filter_cons_of_neg (by simp only [decide_eq_true h4]; simp)]
      · simp (disch := (first | assumption | omega)) only [if_pos, if_neg, if_t, if_f, not_true_eq_false, not_false_eq_true, Bool.false_eq_true, Bool.true_eq_false, eq_self, decide_true, decide_false, Bool.not_true, Bool.not_false, decide_eq_true_eq, Option.bind_some, Bool.not_eq_true', decide_eq_false_iff_not, h4, ei, ej]
        rw [ih (i + 1) (j + 1) (l.set i.toNat (l.getD j.toNat (Ty.dflt tItem))) (by rw [List.length_set]; omega) (by omega) (by omega) (by rw [List.length_set]; omega) (by rw [List.length_set]; omega)]
        rw [tn1 h0, take_set _ _ _ (by omega), tn1 (by omega : 0 ≤ j), drop_set _ _ _ _ (by omega)]
        simp only [butI]
        rw [List.filter_cons_of_pos (by simp only [decide_eq_false h4, Bool.not_false]), List.append_assoc]; rfl
    · rw [dropN (by omega) h3]
      have hi : i.toNat ≤ l.length := by omega
      have e : (l.take i.toNat ++ (List.replicate (l.length - i.toNat) (Ty.dflt tItem) ++ l.drop (i.toNat + (l.length - i.toNat)))).length = l.length := by
        simp only [List.length_append, List.length_take, List.length_replicate, List.length_drop]; omega
      rw [e]
      simp (disch := (first | assumption | omega)) only [if_pos, if_neg, if_t, if_f, not_true_eq_false, not_false_eq_true, Bool.false_eq_true, Bool.true_eq_false, eq_self, decide_true, decide_false, Bool.not_true, Bool.not_false, decide_eq_true_eq, Option.bind_some, Bool.not_eq_true', decide_eq_false_iff_not, h3]
      rw [take_le _ _ _ hi]
      simp [butI]
theorem slices_DeleteFunc__impl_Item_impl_Item_ev {k : Nat} (hk : 4294967299 ≤ k) (l : List Itm) (h : ByteArray) (hl : l.length ≤ 1048577) : asO (List Itm) (evF cfg0 k 195 (l, 194, h)) = some (butI h l) := by
  obtain ⟨k, rfl, hk⟩ := exS hk
  rw [slices_DeleteFunc__impl_Item_impl_Item_eq, slices_IndexFunc__impl_Item_impl_Item_impl_Drop_1_ev (by omega) l h (by omega)]
  have key := atF_split h l 0 (by omega)
  by_cases e : atF h l 0 = -1
  · simp (disch := (first | assumption | omega)) only [if_pos, if_neg, if_t, if_f, not_true_eq_false, not_false_eq_true, Bool.false_eq_true, Bool.true_eq_false, eq_self, decide_true, decide_false, Bool.not_true, Bool.not_false, decide_eq_true_eq, Option.bind_some, Bool.not_eq_true', decide_eq_false_iff_not, e]
    rw [key.1 e]
  · have k2 := key.2 e
    have ej : IntKind.wrap .i64 (atF h l 0 + 1) = atF h l 0 + 1 := wrp (by omega) (by omega)
    simp (disch := (first | assumption | omega)) only [if_pos, if_neg, if_t, if_f, not_true_eq_false, not_false_eq_true, Bool.false_eq_true, Bool.true_eq_false, eq_self, decide_true, decide_false, Bool.not_true, Bool.not_false, decide_eq_true_eq, Option.bind_some, Bool.not_eq_true', decide_eq_false_iff_not, e, ej]
    rw [slices_DeleteFunc__impl_Item_impl_Item_l0_ev (by omega) h k _ _ l (by omega) (by omega) (by omega) (by omega) (by omega)]
    have k3 := k2.2.2
    simp only [Int.sub_zero] at k3
    rw [k3]

/-! ### an item that is touched -/
def moreF (n : Int) : Int := if 3 ≤ n then 3 else n + 1
theorem spec_l10More_ev {k : Nat} (hk : 4294967297 ≤ k) (n : Int) (h1 : -100 ≤ n) (h2 : n ≤ 100) : asO Int (evF cfg0 k 213 n) = some (moreF n) := by
  obtain ⟨k, rfl, hk⟩ := exS hk
  rw [spec_l10More_eq, moreF]
  by_cases h : 3 ≤ n
  · simp (disch := (first | assumption | omega)) only [if_pos, if_neg, if_t, if_f, not_true_eq_false, not_false_eq_true, Bool.false_eq_true, Bool.true_eq_false, eq_self, decide_true, decide_false, Bool.not_true, Bool.not_false, decide_eq_true_eq, Option.bind_some, Bool.not_eq_true', decide_eq_false_iff_not, h]
  · simp (disch := (first | assumption | omega)) only [if_pos, if_neg, if_t, if_f, not_true_eq_false, not_false_eq_true, Bool.false_eq_true, Bool.true_eq_false, eq_self, decide_true, decide_false, Bool.not_true, Bool.not_false, decide_eq_true_eq, Option.bind_some, Bool.not_eq_true', decide_eq_false_iff_not, h, wrp]
def frq (l : List Itm) : Prop := ∀ x ∈ l, 0 ≤ x.2.2 ∧ x.2.2 ≤ 3
theorem frq_at {l : List Itm} (h : frq l) {i : Int} (h0 : 0 ≤ i) (h1 : i < l.length) : 0 ≤ (l.getD i.toNat (Ty.dflt tItem)).2.2 ∧ (l.getD i.toNat (Ty.dflt tItem)).2.2 ≤ 3 := h _ (getD_lt (by omega))
def tchF (l : List Itm) (i : Int) (set : Bool) (val : ByteArray) : List Itm × ByteArray :=
  let x : Itm := l.getD i.toNat (Ty.dflt tItem)
  let v := if set then val else x.2.1
  (l.set i.toNat (x.1, v, moreF x.2.2), v)
def touchF (t : Thr) (key : ByteArray) (set : Bool) (val : ByteArray) : Thr × ByteArray × Bool :=
  if 0 ≤ atF key t.2.2.1 0 then ((t.1, t.2.1, (tchF t.2.2.1 (atF key t.2.2.1 0) set val).1, t.2.2.2.1, t.2.2.2.2), (tchF t.2.2.1 (atF key t.2.2.1 0) set val).2, true)
  else if 0 ≤ atF key t.2.2.2.1 0 then ((t.1, t.2.1, t.2.2.1, (tchF t.2.2.2.1 (atF key t.2.2.2.1 0) set val).1, t.2.2.2.2), (tchF t.2.2.2.1 (atF key t.2.2.2.1 0) set val).2, true)
  else (t, (⟨#[]⟩ : ByteArray), false)
theorem spec_l10Touch_ev {k : Nat} (hk : 4294967298 ≤ k) (t : Thr) (key : ByteArray) (set : Bool) (val : ByteArray) (h1 : t.2.2.1.length ≤ 1048576) (h2 : t.2.2.2.1.length ≤ 1048576) (f1 : frq t.2.2.1) (f2 : frq t.2.2.2.1) (hn : ¬ (0 ≤ atF key t.2.2.1 0 ∧ 0 ≤ atF key t.2.2.2.1 0)) :
    asO (Thr × ByteArray × Bool) (evF cfg0 k 185 (t, key, set, val)) = some (touchF t key set val) := by
  obtain ⟨k, rfl, hk⟩ := exS hk
  obtain ⟨c, m, s, a, g⟩ := t
  simp only at h1 h2 f1 f2 hn
  rw [spec_l10Touch_eq, spec_l10At_ev (by omega) s key (by omega), spec_l10At_ev (by omega) a key (by omega)]
  unfold touchF
  by_cases hi : 0 ≤ atF key s 0
  · have hj : ¬ 0 ≤ atF key a 0 := fun e => hn ⟨hi, e⟩
    have hi2 := atF_bd key s hi
    have fr := frq_at f1 hi hi2
    have em := spec_l10More_ev (k := k) (by omega) (s.getD (atF key s 0).toNat (Ty.dflt tItem)).2.2 (by omega) (by omega)
    cases set
    · simp (disch := (first | assumption | omega)) only [if_pos, if_neg, if_t, if_f, not_true_eq_false, not_false_eq_true, Bool.false_eq_true, Bool.true_eq_false, eq_self, decide_true, decide_false, Bool.not_true, Bool.not_false, decide_eq_true_eq, Option.bind_some, Bool.not_eq_true', decide_eq_false_iff_not, hi, hj, em, tchF]
    · simp (disch := (first | assumption | omega)) only [if_pos, if_neg, if_t, if_f, not_true_eq_false, not_false_eq_true, Bool.false_eq_true, Bool.true_eq_false, eq_self, decide_true, decide_false, Bool.not_true, Bool.not_false, decide_eq_true_eq, Option.bind_some, Bool.not_eq_true', decide_eq_false_iff_not, hi, hj, em, tchF]
  · by_cases hj : 0 ≤ atF key a 0
    · have hj2 := atF_bd key a hj
      have fr := frq_at f2 hj hj2
      have em := spec_l10More_ev (k := k) (by omega) (a.getD (atF key a 0).toNat (Ty.dflt tItem)).2.2 (by omega) (by omega)
      cases set
      · simp (disch := (first | assumption | omega)) only [if_pos, if_neg, if_t, if_f, not_true_eq_false, not_false_eq_true, Bool.false_eq_true, Bool.true_eq_false, eq_self, decide_true, decide_false, Bool.not_true, Bool.not_false, decide_eq_true_eq, Option.bind_some, Bool.not_eq_true', decide_eq_false_iff_not, hi, hj, em, tchF]
      · simp (disch := (first | assumption | omega)) only [if_pos, if_neg, if_t, if_f, not_true_eq_false, not_false_eq_true, Bool.false_eq_true, Bool.true_eq_false, eq_self, decide_true, decide_false, Bool.not_true, Bool.not_false, decide_eq_true_eq, Option.bind_some, Bool.not_eq_true', decide_eq_false_iff_not, hi, hj, em, tchF]
    · simp (disch := (first | assumption | omega)) only [if_pos, if_neg, if_t, if_f, not_true_eq_false, not_false_eq_true, Bool.false_eq_true, Bool.true_eq_false, eq_self, decide_true, decide_false, Bool.not_true, Bool.not_false, decide_eq_true_eq, Option.bind_some, Bool.not_eq_true', decide_eq_false_iff_not, hi, hj]
end Go.Proofs.Ytgnnljpdcafdkaa.Ev

/- What a right cache is; what is put out of it. -/
namespace Go.Proofs.Ytgnnljpdcafdkaa.Ev
open Go
set_option linter.unusedVariables false

theorem at_app1 (key : ByteArray) : ∀ (p l : List Itm) (i : Int), key ∈ p.map (fun x => x.1) → atF key (p ++ l) i = atF key p i
  | [], l, i, h => by simp at h
  | x :: p, l, i, h => by
    simp only [List.cons_append, atF]
    by_cases e : x.1 = key
    · rw [if_pos e, if_pos e]
    · have e' : ¬ key = x.1 := fun q => e q.symm
      simp only [List.map_cons, List.mem_cons, e', false_or] at h
      rw [if_neg e, if_neg e, at_app1 key p l _ h]
theorem at_app2 (key : ByteArray) : ∀ (p l : List Itm) (i : Int), key ∉ p.map (fun x => x.1) → atF key (p ++ l) i = atF key l (i + p.length)
  | [], l, i, h => by simp
  | x :: p, l, i, h => by
    simp only [List.map_cons, List.mem_cons, not_or] at h
    simp only [List.cons_append, atF]
    rw [if_neg (fun q => h.1 q.symm), at_app2 key p l _ h.2]
    simp only [List.length_cons]
    congr 1; omega
theorem at_lt (key : ByteArray) : ∀ (l : List Itm) (i : Int), key ∈ l.map (fun x => x.1) → i ≤ atF key l i ∧ atF key l i < i + l.length
  | [], i, h => by simp at h
  | x :: l, i, h => by
    simp only [atF]
    by_cases e : x.1 = key
    · rw [if_pos e]; simp only [List.length_cons]; omega
    · have e' : ¬ key = x.1 := fun q => e q.symm
      simp only [List.map_cons, List.mem_cons, e', false_or] at h
      have := at_lt key l (i + 1) h
      rw [if_neg e]; simp only [List.length_cons]; omega
theorem at_out (key : ByteArray) : ∀ (l : List Itm) (i : Int), key ∉ l.map (fun x => x.1) → atF key l i = -1
  | [], i, h => rfl
  | x :: l, i, h => by
    simp only [List.map_cons, List.mem_cons, not_or] at h
    simp only [atF]
    rw [if_neg (fun q => h.1 q.symm), at_out key l _ h.2]
theorem at_mem {key : ByteArray} {l : List Itm} (h : 0 ≤ atF key l 0) : key ∈ l.map (fun x => x.1) := by
  apply Classical.byContradiction; intro q; rw [at_out key l 0 q] at h; omega

theorem itF_iff : ∀ (r p : List Itm), itF (p ++ r) r (p.length : Int) = true ↔ (∀ x ∈ r, IOk x = true) ∧ (r.map (fun x => x.1)).Nodup ∧ ∀ x ∈ r, x.1 ∉ p.map (fun x => x.1)
  | [], p => by simp [itF]
  | x :: r, p => by
    have ih := itF_iff r (p ++ [x])
    have e1 : ((p ++ [x]).length : Int) = (p.length : Int) + 1 := by simp
    have e2 : p ++ [x] ++ r = p ++ x :: r := by simp
    rw [e1, e2] at ih
    unfold itF
    rw [Bool.and_eq_true, Bool.and_eq_true, decide_eq_true_eq, ih]
    have e3 : atF x.1 (p ++ x :: r) 0 = (p.length : Int) ↔ x.1 ∉ p.map (fun x => x.1) := by
      by_cases h : x.1 ∈ p.map (fun x => x.1)
      · have := at_lt x.1 p 0 h
        rw [at_app1 _ _ _ _ h]
        exact ⟨fun q => by omega, fun q => absurd h q⟩
      · rw [at_app2 _ _ _ _ h]
        simp [atF, h]
    rw [e3]
    simp only [List.forall_mem_cons, List.map_cons, List.nodup_cons, List.map_append, List.map_nil, List.mem_append, List.mem_singleton, not_or]
    constructor
    · rintro ⟨⟨a, b⟩, c, d, f⟩
      refine ⟨⟨a, c⟩, ⟨?_, d⟩, b, fun y hy => (f y hy).1⟩
      intro q
      obtain ⟨y, hy, e⟩ := List.mem_map.1 q
      exact (f y hy).2 e
    · rintro ⟨⟨a, c⟩, ⟨q, d⟩, b, f⟩
      refine ⟨⟨a, b⟩, c, d, fun y hy => ⟨f y hy, fun e => q ?_⟩⟩
      exact List.mem_map.2 ⟨y, hy, e⟩
theorem itF_all (l : List Itm) : itF l l 0 = true ↔ (∀ x ∈ l, IOk x = true) ∧ (l.map (fun x => x.1)).Nodup := by
  have := itF_iff l []
  simpa using this
theorem iok_frq {x : Itm} (h : IOk x = true) : 0 ≤ x.2.2 ∧ x.2.2 ≤ 3 := by
  simp only [IOk, Bool.and_eq_true, decide_eq_true_eq] at h; omega
theorem iok_key {x : Itm} (h : IOk x = true) : x.1.size ≤ 20 := by
  simp only [IOk, Bool.and_eq_true, decide_eq_true_eq] at h; omega
theorem iok_zero {x : Itm} (h : IOk x = true) : IOk (x.1, x.2.1, 0) = true := by
  simp only [IOk, Bool.and_eq_true, decide_eq_true_eq] at h ⊢
  obtain ⟨⟨⟨⟨⟨⟨a, b⟩, c⟩, d⟩, e⟩, f⟩, g⟩ := h
  exact ⟨⟨⟨⟨⟨⟨a, b⟩, c⟩, d⟩, e⟩, by omega⟩, by omega⟩

structure TPr (t : Thr) : Prop where
  c1 : 1 ≤ t.1
  c2 : t.1 ≤ 60
  m1 : 1 ≤ t.2.1
  m2 : t.2.1 ≤ t.1
  gl : (t.2.2.2.2.length : Int) ≤ ghosts t.1 t.2.1
  ln : ((t.2.2.1.length + t.2.2.2.1.length : Nat) : Int) ≤ t.1
  gh : ghF t.2.2.2.2 t.2.2.2.2 0 = true
  it : ∀ x ∈ t.2.2.1 ++ t.2.2.2.1, IOk x = true
  nd : ((t.2.2.1 ++ t.2.2.2.1).map (fun x => x.1)).Nodup
theorem tok_iff (t : Thr) : TOk t = true ↔ TPr t := by
  simp only [TOk, Bool.and_eq_true, decide_eq_true_eq, itF_all]
  constructor
  · rintro ⟨⟨⟨⟨⟨⟨a, b⟩, c, d⟩, e⟩, f⟩, g⟩, h, i⟩; exact ⟨a, b, c, d, e, f, g, h, i⟩
  · rintro ⟨a, b, c, d, e, f, g, h, i⟩; exact ⟨⟨⟨⟨⟨⟨a, b⟩, c, d⟩, e⟩, f⟩, g⟩, h, i⟩
theorem ghosts_le {c m : Int} (h1 : c ≤ 60) (h2 : 1 ≤ m) : ghosts c m ≤ 60 := by unfold ghosts; split <;> omega
namespace TPr
theorem sl {t : Thr} (h : TPr t) : t.2.2.1.length ≤ 60 := by have := h.ln; have := h.c2; omega
theorem al {t : Thr} (h : TPr t) : t.2.2.2.1.length ≤ 60 := by have := h.ln; have := h.c2; omega
theorem gl' {t : Thr} (h : TPr t) : t.2.2.2.2.length ≤ 60 := by have := h.gl; have := ghosts_le h.c2 h.m1; omega
theorem sm {t : Thr} (h : TPr t) : Sm t := ⟨by have := h.sl; omega, by have := h.al; omega, by have := h.gl'; omega⟩
theorem fs {t : Thr} (h : TPr t) : frq t.2.2.1 := fun x hx => iok_frq (h.it x (List.mem_append_left _ hx))
theorem fa {t : Thr} (h : TPr t) : frq t.2.2.2.1 := fun x hx => iok_frq (h.it x (List.mem_append_right _ hx))
theorem ks {t : Thr} (h : TPr t) : ∀ x ∈ t.2.2.1, x.1.size ≤ 20 := fun x hx => iok_key (h.it x (List.mem_append_left _ hx))
theorem one {t : Thr} (h : TPr t) (key : ByteArray) : ¬ (0 ≤ atF key t.2.2.1 0 ∧ 0 ≤ atF key t.2.2.2.1 0) := by
  rintro ⟨a, b⟩
  have n := h.nd
  rw [List.map_append] at n
  exact (List.nodup_append.1 n).2.2 _ (at_mem a) _ (at_mem b) rfl
end TPr

/-! ### what is put out -/
def hauntF (c m : Int) (g : List Int) (h : Int) : List Int := if ghosts c m < ((but h g ++ [h]).length : Int) then (but h g ++ [h]).drop 1 else but h g ++ [h]
def evS (c m : Int) (g : List Int) : List Itm → List Itm → Thr × ByteArray × Bool
  | [], a => ((c, m, [], a, g), (⟨#[]⟩ : ByteArray), false)
  | x :: s, a => if 1 < x.2.2 then evS c m g s (a ++ [(x.1, x.2.1, 0)]) else ((c, m, s, a, hauntF c m g (hash x.1)), x.1, true)
def evM (c m : Int) (s : List Itm) (g : List Int) : Nat → List Itm → Thr × ByteArray × Bool
  | 0, a => ((c, m, s, a, g), (⟨#[]⟩ : ByteArray), false)
  | n + 1, [] => ((c, m, s, [], g), (⟨#[]⟩ : ByteArray), false)
  | n + 1, x :: a => if x.2.2 = 0 then ((c, m, s, a, g), x.1, true) else evM c m s g n (a ++ [(x.1, x.2.1, x.2.2 - 1)])
def evF1 (t : Thr) : Thr × ByteArray × Bool :=
  if t.2.1 ≤ t.2.2.1.length ∨ t.2.2.2.1.length = 0 then
    if (evS t.1 t.2.1 t.2.2.2.2 t.2.2.1 t.2.2.2.1).2.2 = true then evS t.1 t.2.1 t.2.2.2.2 t.2.2.1 t.2.2.2.1
    else evM t.1 t.2.1 (evS t.1 t.2.1 t.2.2.2.2 t.2.2.1 t.2.2.2.1).1.2.2.1 (evS t.1 t.2.1 t.2.2.2.2 t.2.2.1 t.2.2.2.1).1.2.2.2.2 200 (evS t.1 t.2.1 t.2.2.2.2 t.2.2.1 t.2.2.2.1).1.2.2.2.1
  else evM t.1 t.2.1 t.2.2.1 t.2.2.2.2 200 t.2.2.2.1

theorem dr1 {α : Type} (l : List α) : (l.drop 1).take (l.length - 1) = l.drop 1 := by
  rw [List.take_of_length_le]; rw [List.length_drop]; omega
theorem app_len {α : Type} (l : List α) (x : α) : l.length + [x].length = l.length + 1 := rfl

theorem spec_l10Haunt_ev {k : Nat} (hk : 4294967298 ≤ k) (t : Thr) (h : Int) (p1 : -1000 ≤ t.1) (p2 : t.1 ≤ 1000) (p3 : -1000 ≤ t.2.1) (p4 : t.2.1 ≤ 1000) (hg : t.2.2.2.2.length ≤ 1048576) :
    asO Thr (evF cfg0 k 225 (t, h)) = some (t.1, t.2.1, t.2.2.1, t.2.2.2.1, hauntF t.1 t.2.1 t.2.2.2.2 h) := by
  obtain ⟨k, rfl, hk⟩ := exS hk
  obtain ⟨c, m, s, a, g⟩ := t
  simp only at p1 p2 p3 p4 hg
  have hb := but_len h g
  rw [spec_l10Haunt_eq, spec_l08But_ev (by omega) g h (by omega)]
  simp only [Option.bind_some]
  rw [spec_l10Ghosts_ev (by omega) (c, m, s, a, but h g ++ [h]) p1 p2 p3 p4]
  simp only [Option.bind_some, hauntF, app_len]
  have e2 : (but h g ++ [h]).length = (but h g).length + 1 := by simp
  rw [dr1]
  by_cases h1 : ghosts c m < ((but h g ++ [h]).length : Int)
  · simp (disch := (first | assumption | omega)) only [if_pos, if_neg, if_t, if_f, not_true_eq_false, not_false_eq_true, Bool.false_eq_true, Bool.true_eq_false, eq_self, decide_true, decide_false, Bool.not_true, Bool.not_false, decide_eq_true_eq, Option.bind_some, Bool.not_eq_true', decide_eq_false_iff_not, h1, lim_3, lim_4, lim_9, lim_78, lim_121, lim_128, lim_137]
  · simp (disch := (first | assumption | omega)) only [if_pos, if_neg, if_t, if_f, not_true_eq_false, not_false_eq_true, Bool.false_eq_true, Bool.true_eq_false, eq_self, decide_true, decide_false, Bool.not_true, Bool.not_false, decide_eq_true_eq, Option.bind_some, Bool.not_eq_true', decide_eq_false_iff_not, h1, lim_3, lim_4, lim_9, lim_78, lim_121, lim_128, lim_137]
theorem spec_EvictSmall_l0_ev {k : Nat} (hk : 4294967300 ≤ k + 1) (t : Thr) (p1 : -1000 ≤ t.1) (p2 : t.1 ≤ 1000) (p3 : -1000 ≤ t.2.1) (p4 : t.2.1 ≤ 1000) (hg : t.2.2.2.2.length ≤ 1048576) :
    ∀ (s a : List Itm) (m : Nat), s.length < m → s.length + a.length ≤ 4194304 → (∀ x ∈ s, x.1.size ≤ 20) → spec_EvictSmall_l0 k m t s a = some (evS t.1 t.2.1 t.2.2.2.2 s a) := by
  intro s
  induction s with
  | nil =>
    intro a m h1 h2 h3
    obtain ⟨m, rfl⟩ : ∃ j, m = j + 1 := ⟨m - 1, by omega⟩
    rw [spec_EvictSmall_l0_eq]
    simp (disch := (first | assumption | omega)) only [if_pos, if_neg, if_t, if_f, not_true_eq_false, not_false_eq_true, Bool.false_eq_true, Bool.true_eq_false, eq_self, decide_true, decide_false, Bool.not_true, Bool.not_false, decide_eq_true_eq, Option.bind_some, Bool.not_eq_true', decide_eq_false_iff_not, List.length_nil]
    rfl
  | cons x s ih =>
    intro a m h1 h2 h3
    simp only [List.length_cons] at h1 h2
    obtain ⟨m, rfl⟩ : ∃ j, m = j + 1 := ⟨m - 1, by omega⟩
    have hx := h3 x List.mem_cons_self
    rw [spec_EvictSmall_l0_eq, dr1]
    simp only [List.getD_cons_zero, List.drop_succ_cons, List.drop_zero, List.nil_append, List.length_cons, List.length_nil, evS]
    by_cases h4 : 1 < x.2.2
    · have h4' : ¬ x.2.2 ≤ 1 := by omega
      simp (disch := (first | assumption | omega)) only [if_pos, if_neg, if_t, if_f, not_true_eq_false, not_false_eq_true, Bool.false_eq_true, Bool.true_eq_false, eq_self, decide_true, decide_false, Bool.not_true, Bool.not_false, decide_eq_true_eq, Option.bind_some, Bool.not_eq_true', decide_eq_false_iff_not, h4, h4', lim_3, lim_4, lim_9, lim_78, lim_121, lim_128, lim_137]
      exact ih _ m (by omega) (by simp only [List.length_append, List.length_cons, List.length_nil]; omega) (fun y hy => h3 y (List.mem_cons_of_mem _ hy))
    · have h4' : x.2.2 ≤ 1 := by omega
      have e1 := spec_Hash_ev (k := k) (by omega) x.1 (by omega)
      have e2 := spec_l10Haunt_ev (k := k) (by omega) (t.1, t.2.1, s, a, t.2.2.2.2) (hash x.1) p1 p2 p3 p4 hg
      simp (disch := (first | assumption | omega)) only [if_pos, if_neg, if_t, if_f, not_true_eq_false, not_false_eq_true, Bool.false_eq_true, Bool.true_eq_false, eq_self, decide_true, decide_false, Bool.not_true, Bool.not_false, decide_eq_true_eq, Option.bind_some, Bool.not_eq_true', decide_eq_false_iff_not, h4, h4', lim_3, lim_4, lim_9, lim_78, lim_121, lim_128, lim_137, e1]
      rw [e2]
      rfl
theorem impl_Three_evictSmall_l0_ev {k : Nat} (hk : 4294967300 ≤ k + 1) (c mo : Int) (g : List Int) (p1 : -1000 ≤ c) (p2 : c ≤ 1000) (p3 : -1000 ≤ mo) (p4 : mo ≤ 1000) (hg : g.length ≤ 1048576) :
    ∀ (s a : List Itm) (m : Nat), s.length < m → s.length + a.length ≤ 4194304 → (∀ x ∈ s, x.1.size ≤ 20) → impl_Three_evictSmall_l0 k m c mo g s a = some ((evS c mo g s a).2, (evS c mo g s a).1) := by
  intro s
  induction s with
  | nil =>
    intro a m h1 h2 h3
    obtain ⟨m, rfl⟩ : ∃ j, m = j + 1 := ⟨m - 1, by omega⟩
    rw [impl_Three_evictSmall_l0_eq]
    simp (disch := (first | assumption | omega)) only [if_pos, if_neg, if_t, if_f, not_true_eq_false, not_false_eq_true, Bool.false_eq_true, Bool.true_eq_false, eq_self, decide_true, decide_false, Bool.not_true, Bool.not_false, decide_eq_true_eq, Option.bind_some, Bool.not_eq_true', decide_eq_false_iff_not, List.length_nil]
    rfl
  | cons x s ih =>
    intro a m h1 h2 h3
    simp only [List.length_cons] at h1 h2
    obtain ⟨m, rfl⟩ : ∃ j, m = j + 1 := ⟨m - 1, by omega⟩
    have hx := h3 x List.mem_cons_self
    rw [impl_Three_evictSmall_l0_eq, dr1]
    simp only [List.getD_cons_zero, List.drop_succ_cons, List.drop_zero, List.nil_append, List.length_cons, List.length_nil, evS]
    by_cases h4 : 1 < x.2.2
    · simp (disch := (first | assumption | omega)) only [if_pos, if_neg, if_t, if_f, not_true_eq_false, not_false_eq_true, Bool.false_eq_true, Bool.true_eq_false, eq_self, decide_true, decide_false, Bool.not_true, Bool.not_false, decide_eq_true_eq, Option.bind_some, Bool.not_eq_true', decide_eq_false_iff_not, h4, lim_3, lim_4, lim_9, lim_78, lim_121, lim_128, lim_137]
      exact ih _ m (by omega) (by simp only [List.length_append, List.length_cons, List.length_nil]; omega) (fun y hy => h3 y (List.mem_cons_of_mem _ hy))
    · have hb := but_len (hash x.1) g
      have e1 := impl_Hash_ev (k := k) (by omega) x.1 (by omega)
      have e2 := slices_DeleteFunc__int_int_impl_Three_evictSmall_1_ev (k := k) (by omega) g (hash x.1) (by omega)
      have e3 := impl_Three_ghosts_ev (k := k) (by omega) (c, mo, s, a, but (hash x.1) g ++ [hash x.1]) p1 p2 p3 p4
      have e4 : (but (hash x.1) g ++ [hash x.1]).length = (but (hash x.1) g).length + 1 := by simp
      simp (disch := (first | assumption | omega)) only [if_pos, if_neg, if_t, if_f, not_true_eq_false, not_false_eq_true, Bool.false_eq_true, Bool.true_eq_false, eq_self, decide_true, decide_false, Bool.not_true, Bool.not_false, decide_eq_true_eq, Option.bind_some, Bool.not_eq_true', decide_eq_false_iff_not, h4, lim_3, lim_4, lim_9, lim_78, lim_121, lim_128, lim_137, e1, e2]
      rw [e3, dr1]
      simp only [Option.bind_some, hauntF]
      by_cases h5 : ghosts c mo < ((but (hash x.1) g ++ [hash x.1]).length : Int)
      · simp (disch := (first | assumption | omega)) only [if_pos, if_neg, if_t, if_f, not_true_eq_false, not_false_eq_true, Bool.false_eq_true, Bool.true_eq_false, eq_self, decide_true, decide_false, Bool.not_true, Bool.not_false, decide_eq_true_eq, Option.bind_some, Bool.not_eq_true', decide_eq_false_iff_not, h5]
      · simp (disch := (first | assumption | omega)) only [if_pos, if_neg, if_t, if_f, not_true_eq_false, not_false_eq_true, Bool.false_eq_true, Bool.true_eq_false, eq_self, decide_true, decide_false, Bool.not_true, Bool.not_false, decide_eq_true_eq, Option.bind_some, Bool.not_eq_true', decide_eq_false_iff_not, h5]
theorem spec_EvictSmall_ev {k : Nat} (hk : 4294967300 ≤ k) (t : Thr) (h : TPr t) : asO (Thr × ByteArray × Bool) (evF cfg0 k 214 t) = some (evS t.1 t.2.1 t.2.2.2.2 t.2.2.1 t.2.2.2.1) := by
  obtain ⟨k, rfl, hk'⟩ := exS hk
  have e1 := spec_ThreeOk_ev (k := k) (by omega) t h.sm
  have e2 := spec_l10Copy_ev (k := k) (by omega) t (by have := h.sl; omega) (by have := h.al; omega) (by have := h.gl'; omega)
  have e0 : TOk t = true := (tok_iff t).2 h
  have e3 := spec_EvictSmall_l0_ev (k := k) hk t (by have := h.c1; omega) (by have := h.c2; omega) (by have := h.m1; omega) (by have := h.m2; have := h.c2; omega) (by have := h.gl'; omega) t.2.2.1 t.2.2.2.1 k (by have := h.sl; omega) (by have := h.sl; have := h.al; omega) h.ks
  obtain ⟨c, m, s, a, g⟩ := t
  rw [spec_EvictSmall_eq, e1, e0]
  simp only [Option.bind_some, Bool.not_true, Bool.false_eq_true, if_false]
  rw [e2]
  simp only [Option.bind_some]
  exact e3
theorem impl_Three_evictSmall_ev {k : Nat} (hk : 4294967300 ≤ k) (t : Thr) (h : TPr t) : asO ((ByteArray × Bool) × Thr) (evF cfg0 k 216 t) = some ((evS t.1 t.2.1 t.2.2.2.2 t.2.2.1 t.2.2.2.1).2, (evS t.1 t.2.1 t.2.2.2.2 t.2.2.1 t.2.2.2.1).1) := by
  obtain ⟨k, rfl, hk'⟩ := exS hk
  have e3 := impl_Three_evictSmall_l0_ev (k := k) hk t.1 t.2.1 t.2.2.2.2 (by have := h.c1; omega) (by have := h.c2; omega) (by have := h.m1; omega) (by have := h.m2; have := h.c2; omega) (by have := h.gl'; omega) t.2.2.1 t.2.2.2.1 k (by have := h.sl; omega) (by have := h.sl; have := h.al; omega) h.ks
  obtain ⟨c, m, s, a, g⟩ := t
  rw [impl_Three_evictSmall_eq]
  exact e3

/-! ### the main queue -/
def fr : List Itm → Nat
  | [] => 0
  | x :: r => x.2.2.toNat + fr r
theorem fr_app : ∀ (a b : List Itm), fr (a ++ b) = fr a + fr b
  | [], b => by simp [fr]
  | x :: a, b => by simp only [List.cons_append, fr, fr_app a b]; omega
theorem fr_le : ∀ (a : List Itm), frq a → fr a ≤ 3 * a.length
  | [], h => by simp [fr]
  | x :: a, h => by
    have h1 := h x List.mem_cons_self
    have h2 := fr_le a (fun y hy => h y (List.mem_cons_of_mem _ hy))
    simp only [fr, List.length_cons]; omega
theorem frq_app {a b : List Itm} (h : frq a) (h' : frq b) : frq (a ++ b) := fun x hx => (List.mem_append.1 hx).elim (h x) (h' x)
theorem spec_evM_l0_ev {k : Nat} (c mo : Int) (s a0 : List Itm) (g : List Int) : ∀ (n m : Nat) (a : List Itm), fr a < n → n < m → a.length ≤ 4194304 → frq a → spec_EvictMain_l0 k m (c, mo, s, a0, g) a = some (evM c mo s g n a) := by
  intro n
  induction n with
  | zero => intro m a h1; omega
  | succ n ih =>
    intro m a h1 h2 h3 h4
    obtain ⟨m, rfl⟩ : ∃ j, m = j + 1 := ⟨m - 1, by omega⟩
    cases a with
    | nil =>
      rw [spec_EvictMain_l0_eq]
      simp (disch := (first | assumption | omega)) only [if_pos, if_neg, if_t, if_f, not_true_eq_false, not_false_eq_true, Bool.false_eq_true, Bool.true_eq_false, eq_self, decide_true, decide_false, Bool.not_true, Bool.not_false, decide_eq_true_eq, Option.bind_some, Bool.not_eq_true', decide_eq_false_iff_not, List.length_nil]
      rfl
    | cons x a =>
      simp only [List.length_cons] at h3
      simp only [fr] at h1
      have hx := h4 x List.mem_cons_self
      rw [spec_EvictMain_l0_eq, dr1]
      simp only [List.getD_cons_zero, List.drop_succ_cons, List.drop_zero, List.nil_append, List.length_cons, List.length_nil, evM]
      by_cases h5 : x.2.2 = 0
      · simp (disch := (first | assumption | omega)) only [if_pos, if_neg, if_t, if_f, not_true_eq_false, not_false_eq_true, Bool.false_eq_true, Bool.true_eq_false, eq_self, decide_true, decide_false, Bool.not_true, Bool.not_false, decide_eq_true_eq, Option.bind_some, Bool.not_eq_true', decide_eq_false_iff_not, h5, lim_3, lim_4, lim_9, lim_78, lim_121, lim_128, lim_137]
      · have e : IntKind.wrap .i64 (x.2.2 - 1) = x.2.2 - 1 := wrp (by omega) (by omega)
        simp (disch := (first | assumption | omega)) only [if_pos, if_neg, if_t, if_f, not_true_eq_false, not_false_eq_true, Bool.false_eq_true, Bool.true_eq_false, eq_self, decide_true, decide_false, Bool.not_true, Bool.not_false, decide_eq_true_eq, Option.bind_some, Bool.not_eq_true', decide_eq_false_iff_not, h5, lim_3, lim_4, lim_9, lim_78, lim_121, lim_128, lim_137, e]
        refine ih m (a ++ [(x.1, x.2.1, x.2.2 - 1)]) ?_ (by omega) (by simp only [List.length_append, List.length_cons, List.length_nil]; omega) ?_
        · rw [fr_app]; simp only [fr]; omega
        · refine frq_app (fun y hy => h4 y (List.mem_cons_of_mem _ hy)) (fun y hy => ?_)
          simp only [List.mem_singleton] at hy; subst hy; simp only; omega
theorem impl_evM_l0_ev {k : Nat} (c mo : Int) (s : List Itm) (g : List Int) : ∀ (n m : Nat) (a : List Itm), fr a < n → n < m → a.length ≤ 4194304 → frq a → impl_Three_evictMain_l0 k m c mo s g a = some ((evM c mo s g n a).2, (evM c mo s g n a).1) := by
  intro n
  induction n with
  | zero => intro m a h1; omega
  | succ n ih =>
    intro m a h1 h2 h3 h4
    obtain ⟨m, rfl⟩ : ∃ j, m = j + 1 := ⟨m - 1, by omega⟩
    cases a with
    | nil =>
      rw [impl_Three_evictMain_l0_eq]
      simp (disch := (first | assumption | omega)) only [if_pos, if_neg, if_t, if_f, not_true_eq_false, not_false_eq_true, Bool.false_eq_true, Bool.true_eq_false, eq_self, decide_true, decide_false, Bool.not_true, Bool.not_false, decide_eq_true_eq, Option.bind_some, Bool.not_eq_true', decide_eq_false_iff_not, List.length_nil]
      rfl
    | cons x a =>
      simp only [List.length_cons] at h3
      simp only [fr] at h1
      have hx := h4 x List.mem_cons_self
      rw [impl_Three_evictMain_l0_eq, dr1]
      simp only [List.getD_cons_zero, List.drop_succ_cons, List.drop_zero, List.nil_append, List.length_cons, List.length_nil, evM]
      by_cases h5 : x.2.2 = 0
      · simp (disch := (first | assumption | omega)) only [if_pos, if_neg, if_t, if_f, not_true_eq_false, not_false_eq_true, Bool.false_eq_true, Bool.true_eq_false, eq_self, decide_true, decide_false, Bool.not_true, Bool.not_false, decide_eq_true_eq, Option.bind_some, Bool.not_eq_true', decide_eq_false_iff_not, h5, lim_3, lim_4, lim_9, lim_78, lim_121, lim_128, lim_137]
      · have e : IntKind.wrap .i64 (x.2.2 - 1) = x.2.2 - 1 := wrp (by omega) (by omega)
        simp (disch := (first | assumption | omega)) only [if_pos, if_neg, if_t, if_f, not_true_eq_false, not_false_eq_true, Bool.false_eq_true, Bool.true_eq_false, eq_self, decide_true, decide_false, Bool.not_true, Bool.not_false, decide_eq_true_eq, Option.bind_some, Bool.not_eq_true', decide_eq_false_iff_not, h5, lim_3, lim_4, lim_9, lim_78, lim_121, lim_128, lim_137, e]
        refine ih m (a ++ [(x.1, x.2.1, x.2.2 - 1)]) ?_ (by omega) (by simp only [List.length_append, List.length_cons, List.length_nil]; omega) ?_
        · rw [fr_app]; simp only [fr]; omega
        · refine frq_app (fun y hy => h4 y (List.mem_cons_of_mem _ hy)) (fun y hy => ?_)
          simp only [List.mem_singleton] at hy; subst hy; simp only; omega
end Go.Proofs.Ytgnnljpdcafdkaa.Ev

/- Evict, Get, Put, Drop. -/
namespace Go.Proofs.Ytgnnljpdcafdkaa.Ev
open Go
set_option linter.unusedVariables false

theorem spec_EvictMain_ev {k : Nat} (hk : 4294967300 ≤ k) (t : Thr) (h : TPr t) : asO (Thr × ByteArray × Bool) (evF cfg0 k 215 t) = some (evM t.1 t.2.1 t.2.2.1 t.2.2.2.2 200 t.2.2.2.1) := by
  obtain ⟨k, rfl, hk'⟩ := exS hk
  have e1 := spec_ThreeOk_ev (k := k) (by omega) t h.sm
  have e2 := spec_l10Copy_ev (k := k) (by omega) t (by have := h.sl; omega) (by have := h.al; omega) (by have := h.gl'; omega)
  have e0 : TOk t = true := (tok_iff t).2 h
  have f1 := fr_le _ h.fa
  have e3 := spec_evM_l0_ev (k := k) t.1 t.2.1 t.2.2.1 t.2.2.2.1 t.2.2.2.2 200 k t.2.2.2.1 (by have := h.al; omega) (by omega) (by have := h.al; omega) h.fa
  obtain ⟨c, m, s, a, g⟩ := t
  rw [spec_EvictMain_eq, e1, e0]
  simp only [Option.bind_some, Bool.not_true, Bool.false_eq_true, if_false]
  rw [e2]
  simp only [Option.bind_some]
  exact e3
theorem impl_Three_evictMain_ev {k : Nat} (hk : 4294967297 ≤ k) (t : Thr) (h : TPr t) : asO ((ByteArray × Bool) × Thr) (evF cfg0 k 217 t) = some ((evM t.1 t.2.1 t.2.2.1 t.2.2.2.2 200 t.2.2.2.1).2, (evM t.1 t.2.1 t.2.2.1 t.2.2.2.2 200 t.2.2.2.1).1) := by
  obtain ⟨k, rfl, hk'⟩ := exS hk
  have f1 := fr_le _ h.fa
  have e3 := impl_evM_l0_ev (k := k) t.1 t.2.1 t.2.2.1 t.2.2.2.2 200 k t.2.2.2.1 (by have := h.al; omega) (by omega) (by have := h.al; omega) h.fa
  obtain ⟨c, m, s, a, g⟩ := t
  rw [impl_Three_evictMain_eq]
  exact e3

def zro (x : Itm) : Itm := (x.1, x.2.1, 0)
theorem evS_false {c m : Int} {g : List Int} : ∀ (s a : List Itm), (evS c m g s a).2.2 = false → evS c m g s a = ((c, m, [], a ++ s.map zro, g), (⟨#[]⟩ : ByteArray), false)
  | [], a, h => by simp [evS]
  | x :: s, a, h => by
    unfold evS at h ⊢
    by_cases e : 1 < x.2.2
    · rw [if_pos e] at h ⊢
      rw [evS_false s _ h]; simp [zro]
    · rw [if_neg e] at h; cases h
theorem haunt_len (c m : Int) (g : List Int) (h : Int) : (hauntF c m g h).length ≤ g.length + 1 := by
  have := but_len h g
  unfold hauntF
  split <;> simp <;> omega
theorem evS_true {c m : Int} {g : List Int} : ∀ (s a : List Itm), (evS c m g s a).2.2 = true → (evS c m g s a).1.1 = c ∧ (evS c m g s a).1.2.1 = m ∧ (evS c m g s a).1.2.2.1.length + (evS c m g s a).1.2.2.2.1.length + 1 = s.length + a.length ∧ (evS c m g s a).1.2.2.2.2.length ≤ g.length + 1
  | [], a, h => by simp [evS] at h
  | x :: s, a, h => by
    unfold evS at h ⊢
    by_cases e : 1 < x.2.2
    · rw [if_pos e] at h ⊢
      have := evS_true s _ h
      simp only [List.length_append, List.length_cons, List.length_nil] at this ⊢
      exact ⟨this.1, this.2.1, by omega, this.2.2.2⟩
    · rw [if_neg e]
      exact ⟨rfl, rfl, by simp only [List.length_cons]; omega, haunt_len _ _ _ _⟩
theorem evM_res {c m : Int} {s : List Itm} {g : List Int} : ∀ (n : Nat) (a : List Itm), fr a < n → frq a → a ≠ [] → (evM c m s g n a).1.1 = c ∧ (evM c m s g n a).1.2.1 = m ∧ (evM c m s g n a).1.2.2.1 = s ∧ (evM c m s g n a).1.2.2.2.1.length + 1 = a.length ∧ (evM c m s g n a).1.2.2.2.2 = g
  | 0, a, h, hf, h' => by omega
  | n + 1, [], h, hf, h' => absurd rfl h'
  | n + 1, x :: a, h, hf, h' => by
    simp only [fr] at h
    have hx := hf x List.mem_cons_self
    unfold evM
    by_cases e : x.2.2 = 0
    · rw [if_pos e]; exact ⟨rfl, rfl, rfl, by simp only [List.length_cons], rfl⟩
    · rw [if_neg e]
      have := evM_res (c := c) (m := m) (s := s) (g := g) n (a ++ [(x.1, x.2.1, x.2.2 - 1)]) (by rw [fr_app]; simp only [fr]; omega) (frq_app (fun y hy => hf y (List.mem_cons_of_mem _ hy)) (fun y hy => by simp only [List.mem_singleton] at hy; subst hy; simp only; omega)) (by simp)
      simp only [List.length_append, List.length_cons, List.length_nil] at this ⊢
      exact this
theorem moved {c m : Int} {s a : List Itm} {g : List Int} (h : TPr (c, m, s, a, g)) : TPr (c, m, [], a ++ s.map zro, g) := by
  refine ⟨h.c1, h.c2, h.m1, h.m2, h.gl, ?_, h.gh, ?_, ?_⟩
  · have := h.ln
    simp only [List.length_nil, List.length_append, List.length_map] at this ⊢; omega
  · intro x hx
    simp only [List.nil_append, List.mem_append, List.mem_map] at hx
    rcases hx with hx | ⟨y, hy, rfl⟩
    · exact h.it x (List.mem_append_right _ hx)
    · exact iok_zero (h.it y (List.mem_append_left _ hy))
  · have n := h.nd
    simp only [List.nil_append, List.map_append, List.map_map] at n ⊢
    have e : ((fun x : Itm => x.1) ∘ zro) = (fun x : Itm => x.1) := rfl
    rw [e]
    exact (List.perm_append_comm.nodup_iff).1 n
theorem ev1_false {t : Thr} (h : TPr t) (hs : (evS t.1 t.2.1 t.2.2.2.2 t.2.2.1 t.2.2.2.1).2.2 = false) : TPr (evS t.1 t.2.1 t.2.2.2.2 t.2.2.1 t.2.2.2.1).1 ∧ (evS t.1 t.2.1 t.2.2.2.2 t.2.2.1 t.2.2.2.1).1.1 = t.1 ∧ (evS t.1 t.2.1 t.2.2.2.2 t.2.2.1 t.2.2.2.1).1.2.1 = t.2.1 ∧ (evS t.1 t.2.1 t.2.2.2.2 t.2.2.1 t.2.2.2.1).1.2.2.1 = [] ∧ (evS t.1 t.2.1 t.2.2.2.2 t.2.2.1 t.2.2.2.1).1.2.2.2.1.length = t.2.2.1.length + t.2.2.2.1.length ∧ (evS t.1 t.2.1 t.2.2.2.2 t.2.2.1 t.2.2.2.1).1.2.2.2.2 = t.2.2.2.2 := by
  rw [evS_false _ _ hs]
  refine ⟨moved h, rfl, rfl, rfl, ?_, rfl⟩
  simp only [List.length_append, List.length_map]; omega
theorem ev1_res {t : Thr} (h : TPr t) (hn : 1 ≤ t.2.2.1.length + t.2.2.2.1.length) : (evF1 t).1.1 = t.1 ∧ (evF1 t).1.2.1 = t.2.1 ∧ (evF1 t).1.2.2.1.length + (evF1 t).1.2.2.2.1.length + 1 = t.2.2.1.length + t.2.2.2.1.length ∧ (evF1 t).1.2.2.2.2.length ≤ 61 := by
  have g1 := h.gl'
  unfold evF1
  by_cases h1 : t.2.1 ≤ t.2.2.1.length ∨ t.2.2.2.1.length = 0
  · rw [if_pos h1]
    by_cases h2 : (evS t.1 t.2.1 t.2.2.2.2 t.2.2.1 t.2.2.2.1).2.2 = true
    · rw [if_pos h2]
      have := evS_true _ _ h2
      exact ⟨this.1, this.2.1, this.2.2.1, by omega⟩
    · rw [if_neg h2]
      have h3 := ev1_false h (by simpa using h2)
      have f1 := fr_le _ h3.1.fa
      have := evM_res (c := t.1) (m := t.2.1) (s := (evS t.1 t.2.1 t.2.2.2.2 t.2.2.1 t.2.2.2.1).1.2.2.1) (g := (evS t.1 t.2.1 t.2.2.2.2 t.2.2.1 t.2.2.2.1).1.2.2.2.2) 200 _ (by have := h3.1.al; omega) h3.1.fa (by intro q; rw [q] at h3; have := h3.2.2.2.2.1; simp only [List.length_nil] at this; omega)
      refine ⟨this.1, this.2.1, ?_, ?_⟩
      · have l1 := congrArg List.length this.2.2.1
        have l3 := congrArg List.length h3.2.2.2.1
        simp only [List.length_nil] at l3
        have l4 := h3.2.2.2.2.1
        have l5 := this.2.2.2.1
        omega
      · rw [this.2.2.2.2, h3.2.2.2.2.2]; omega
  · rw [if_neg h1]
    have f1 := fr_le _ h.fa
    have h2 : t.2.2.2.1 ≠ [] := by intro q; rw [q] at h1; simp at h1
    have := evM_res (c := t.1) (m := t.2.1) (s := t.2.2.1) (g := t.2.2.2.2) 200 _ (by have := h.al; omega) h.fa h2
    refine ⟨this.1, this.2.1, ?_, ?_⟩
    · rw [this.2.2.1]; omega
    · rw [this.2.2.2.2]; omega

theorem prT {α β : Type} {r : α × β × Bool} (h : r.2.2 = true) : (r.1, r.2.1, true) = r := by rw [← h]
theorem prT2 {α β : Type} {r : α × β × Bool} (h : r.2.2 = true) : ((r.2.1, true), r.1) = (r.2, r.1) := by rw [← h]

theorem spec_Evict_ev {k : Nat} (hk : 4294967301 ≤ k) (t : Thr) (h : TPr t) : asO (Thr × ByteArray × Bool) (evF cfg0 k 186 t) = some (evF1 t) := by
  obtain ⟨k, rfl, hk'⟩ := exS hk
  have e1 := spec_ThreeOk_ev (k := k) (by omega) t h.sm
  have e0 : TOk t = true := (tok_iff t).2 h
  have e2 := spec_EvictSmall_ev (k := k) (by omega) t h
  have e3 := spec_EvictMain_ev (k := k) (by omega) t h
  have e4 : (evS t.1 t.2.1 t.2.2.2.2 t.2.2.1 t.2.2.2.1).2.2 = false → asO (Thr × ByteArray × Bool) (evF cfg0 k 215 (evS t.1 t.2.1 t.2.2.2.2 t.2.2.1 t.2.2.2.1).1) = some (evM t.1 t.2.1 (evS t.1 t.2.1 t.2.2.2.2 t.2.2.1 t.2.2.2.1).1.2.2.1 (evS t.1 t.2.1 t.2.2.2.2 t.2.2.1 t.2.2.2.1).1.2.2.2.2 200 (evS t.1 t.2.1 t.2.2.2.2 t.2.2.1 t.2.2.2.1).1.2.2.2.1) := by
    intro hf
    have h3 := ev1_false h hf
    have := spec_EvictMain_ev (k := k) (by omega) _ h3.1
    rw [h3.2.1, h3.2.2.1] at this
    exact this
  unfold evF1
  obtain ⟨c, m, s, a, g⟩ := t
  simp only at e1 e0 e2 e3 e4 ⊢
  rw [spec_Evict_eq, e1, e0, e2]
  simp only [Option.bind_some, Bool.not_true, Bool.false_eq_true, if_false, decide_eq_true_eq]
  generalize evS c m g s a = r at e4 ⊢
  have hb : r.2.2 = true ∨ r.2.2 = false := by cases r.2.2 <;> simp
  by_cases h1 : m ≤ s.length
  · rw [if_pos h1, if_pos (Or.inl h1)]
    rcases hb with hr | hr
    · rw [if_pos hr, if_pos hr, prT hr]
    · rw [if_neg (by rw [hr]; simp), if_neg (by rw [hr]; simp), e4 hr]; rfl
  · rw [if_neg h1]
    by_cases h2 : a.length = 0
    · have h2' : (a.length : Int) = 0 := by omega
      rw [if_pos h2', if_pos (Or.inr h2)]
      rcases hb with hr | hr
      · rw [if_pos hr, if_pos hr, prT hr]
      · rw [if_neg (by rw [hr]; simp), if_neg (by rw [hr]; simp), e4 hr]; rfl
    · have h2' : ¬ (a.length : Int) = 0 := by omega
      rw [if_neg h2', if_neg (by simp only [h1, h2, or_self, not_false_eq_true]), e3]; rfl
theorem impl_Three_evict_ev {k : Nat} (hk : 4294967301 ≤ k) (t : Thr) (h : TPr t) : asO ((ByteArray × Bool) × Thr) (evF cfg0 k 191 t) = some ((evF1 t).2, (evF1 t).1) := by
  obtain ⟨k, rfl, hk'⟩ := exS hk
  have e2 := impl_Three_evictSmall_ev (k := k) (by omega) t h
  have e3 := impl_Three_evictMain_ev (k := k) (by omega) t h
  have e4 : (evS t.1 t.2.1 t.2.2.2.2 t.2.2.1 t.2.2.2.1).2.2 = false → asO ((ByteArray × Bool) × Thr) (evF cfg0 k 217 (evS t.1 t.2.1 t.2.2.2.2 t.2.2.1 t.2.2.2.1).1) = some ((evM t.1 t.2.1 (evS t.1 t.2.1 t.2.2.2.2 t.2.2.1 t.2.2.2.1).1.2.2.1 (evS t.1 t.2.1 t.2.2.2.2 t.2.2.1 t.2.2.2.1).1.2.2.2.2 200 (evS t.1 t.2.1 t.2.2.2.2 t.2.2.1 t.2.2.2.1).1.2.2.2.1).2, (evM t.1 t.2.1 (evS t.1 t.2.1 t.2.2.2.2 t.2.2.1 t.2.2.2.1).1.2.2.1 (evS t.1 t.2.1 t.2.2.2.2 t.2.2.1 t.2.2.2.1).1.2.2.2.2 200 (evS t.1 t.2.1 t.2.2.2.2 t.2.2.1 t.2.2.2.1).1.2.2.2.1).1) := by
    intro hf
    have h3 := ev1_false h hf
    have := impl_Three_evictMain_ev (k := k) (by omega) _ h3.1
    rw [h3.2.1, h3.2.2.1] at this
    exact this
  unfold evF1
  obtain ⟨c, m, s, a, g⟩ := t
  simp only at e2 e3 e4 ⊢
  rw [impl_Three_evict_eq, e2]
  simp only [Option.bind_some, decide_eq_true_eq]
  generalize evS c m g s a = r at e4 ⊢
  have hb : r.2.2 = true ∨ r.2.2 = false := by cases r.2.2 <;> simp
  by_cases h1 : m ≤ s.length
  · rw [if_pos h1, if_pos (Or.inl h1)]
    rcases hb with hr | hr
    · rw [if_pos hr, if_pos hr, prT2 hr]
    · rw [if_neg (by rw [hr]; simp), if_neg (by rw [hr]; simp), e4 hr]; rfl
  · rw [if_neg h1]
    by_cases h2 : a.length = 0
    · have h2' : (a.length : Int) = 0 := by omega
      rw [if_pos h2', if_pos (Or.inr h2)]
      rcases hb with hr | hr
      · rw [if_pos hr, if_pos hr, prT2 hr]
      · rw [if_neg (by rw [hr]; simp), if_neg (by rw [hr]; simp), e4 hr]; rfl
    · have h2' : ¬ (a.length : Int) = 0 := by omega
      rw [if_neg h2', if_neg (by simp only [h1, h2, or_self, not_false_eq_true]), e3]; rfl
end Go.Proofs.Ytgnnljpdcafdkaa.Ev

/- Get, Put, Drop, and what does them. -/
namespace Go.Proofs.Ytgnnljpdcafdkaa.Ev
open Go
set_option linter.unusedVariables false

abbrev thr0 : Thr := (0, 0, [], [], [])
def getF (t : Thr) (key : ByteArray) : Thr × ByteArray × Bool := if TOk t = true then touchF t key false (⟨#[]⟩ : ByteArray) else (thr0, (⟨#[]⟩ : ByteArray), false)
theorem spec_Get_ev {k : Nat} (hk : 4294967300 ≤ k) (t : Thr) (key : ByteArray) (hs : Sm t) : asO (Thr × ByteArray × Bool) (evF cfg0 k 157 (t, key)) = some (getF t key) := by
  obtain ⟨k, rfl, hk'⟩ := exS hk
  have e1 := spec_ThreeOk_ev (k := k) (by omega) t hs
  have e2 := spec_l10Copy_ev (k := k) (by omega) t (by have := hs.1; omega) (by have := hs.2.1; omega) (by have := hs.2.2; omega)
  have e3 : TPr t → asO (Thr × ByteArray × Bool) (evF cfg0 k 185 (t, key, false, (⟨#[]⟩ : ByteArray))) = some (touchF t key false (⟨#[]⟩ : ByteArray)) := fun h => spec_l10Touch_ev (by omega) t key false (⟨#[]⟩ : ByteArray) hs.1 hs.2.1 h.fs h.fa (h.one key)
  unfold getF
  obtain ⟨c, m, s, a, g⟩ := t
  rw [spec_Get_eq, e1]
  simp only [Option.bind_some]
  by_cases h : TOk (c, m, s, a, g) = true
  · rw [h, if_pos rfl]
    simp only [Bool.not_true, Bool.false_eq_true, if_false]
    rw [e2]; simp only [Option.bind_some]
    rw [e3 ((tok_iff _).1 h)]; rfl
  · rw [if_neg h, if_pos (by simpa using h)]
theorem getD_set {α : Type} {l : List α} {i : Nat} {v d : α} (h : i < l.length) : (l.set i v).getD i d = v := by simp [List.getD, h]
theorem min3 {n : Int} (h1 : 0 ≤ n) (h2 : n ≤ 3) : (if IntKind.wrap .i64 (n + 1) < 3 then IntKind.wrap .i64 (n + 1) else 3) = moreF n := by
  rw [wrp (by omega) (by omega), moreF]
  split <;> split <;> omega
theorem impl_Get_ev {k : Nat} (hk : 4294967302 ≤ k) (t : Thr) (key : ByteArray) (hs : Sm t) : asO (Thr × ByteArray × Bool) (evF cfg0 k 162 (t, key)) = some (getF t key) := by
  obtain ⟨k, rfl, hk'⟩ := exS hk
  have e1 := impl_ThreeOk_ev (k := k) (by omega) t hs
  have e2 := impl_copyThree_ev (k := k) (by omega) t (by have := hs.1; omega) (by have := hs.2.1; omega) (by have := hs.2.2; omega)
  have hs1 := hs.1
  have hs2 := hs.2.1
  have e3 := impl_itemAt_ev (k := k) (by omega) t.2.2.1 key (by omega)
  have e4 := impl_itemAt_ev (k := k) (by omega) t.2.2.2.1 key (by omega)
  unfold getF
  obtain ⟨c, m, s, a, g⟩ := t
  rw [impl_Get_eq, e1]
  simp only [Option.bind_some]
  by_cases h : TOk (c, m, s, a, g) = true
  · have hp := (tok_iff _).1 h
    rw [h, if_pos rfl]
    simp only [Bool.not_true, Bool.false_eq_true, if_false]
    rw [e2]; simp only [Option.bind_some]
    rw [e3]; simp only [Option.bind_some]
    unfold touchF
    by_cases hi : 0 ≤ atF key s 0
    · have hi2 := atF_bd key s hi
      have fr := frq_at hp.fs hi hi2
      rw [min3 fr.1 fr.2, getD_set (by omega)]
      simp (disch := (first | assumption | omega)) only [if_pos, if_neg, if_t, if_f, not_true_eq_false, not_false_eq_true, Bool.false_eq_true, Bool.true_eq_false, eq_self, decide_true, decide_false, Bool.not_true, Bool.not_false, decide_eq_true_eq, Option.bind_some, Bool.not_eq_true', decide_eq_false_iff_not, hi, tchF]
    · rw [e4]; simp only [Option.bind_some]
      by_cases hj : 0 ≤ atF key a 0
      · have hj2 := atF_bd key a hj
        have fr := frq_at hp.fa hj hj2
        rw [min3 (n := (a.getD (atF key a 0).toNat (Ty.dflt tItem)).2.2) fr.1 fr.2, getD_set (l := a) (by omega)]
        simp (disch := (first | assumption | omega)) only [if_pos, if_neg, if_t, if_f, not_true_eq_false, not_false_eq_true, Bool.false_eq_true, Bool.true_eq_false, eq_self, decide_true, decide_false, Bool.not_true, Bool.not_false, decide_eq_true_eq, Option.bind_some, Bool.not_eq_true', decide_eq_false_iff_not, hi, hj, tchF]
      · simp (disch := (first | assumption | omega)) only [if_pos, if_neg, if_t, if_f, not_true_eq_false, not_false_eq_true, Bool.false_eq_true, Bool.true_eq_false, eq_self, decide_true, decide_false, Bool.not_true, Bool.not_false, decide_eq_true_eq, Option.bind_some, Bool.not_eq_true', decide_eq_false_iff_not, hi, hj]
  · rw [if_neg h, if_pos (by simpa using h)]

/-! ### Drop -/
def dropF (t : Thr) (key : ByteArray) : Thr × Bool :=
  if TOk t = true then ((t.1, t.2.1, butI key t.2.2.1, butI key t.2.2.2.1, t.2.2.2.2), decide (((butI key t.2.2.1).length + (butI key t.2.2.2.1).length : Int) < (t.2.2.1.length + t.2.2.2.1.length : Int))) else (thr0, false)
theorem spec_Drop_ev {k : Nat} (hk : 4294967300 ≤ k) (t : Thr) (key : ByteArray) (hs : Sm t) : asO (Thr × Bool) (evF cfg0 k 159 (t, key)) = some (dropF t key) := by
  obtain ⟨k, rfl, hk'⟩ := exS hk
  have e1 := spec_ThreeOk_ev (k := k) (by omega) t hs
  have e2 := spec_l10Copy_ev (k := k) (by omega) t (by have := hs.1; omega) (by have := hs.2.1; omega) (by have := hs.2.2; omega)
  have hs1 := hs.1
  have hs2 := hs.2.1
  have e3 := spec_l10Without_ev (k := k) (by omega) t.2.2.1 key (by omega)
  have e4 := spec_l10Without_ev (k := k) (by omega) t.2.2.2.1 key (by omega)
  have l3 := butI_len key t.2.2.1
  have l4 := butI_len key t.2.2.2.1
  unfold dropF
  obtain ⟨c, m, s, a, g⟩ := t
  simp only at l3 l4 hs1 hs2
  rw [spec_Drop_eq, e1]
  simp only [Option.bind_some]
  by_cases h : TOk (c, m, s, a, g) = true
  · rw [h, if_pos rfl]
    simp only [Bool.not_true, Bool.false_eq_true, if_false]
    rw [e2]; simp only [Option.bind_some]
    rw [e3]; simp only [Option.bind_some]
    rw [e4]; simp only [Option.bind_some]
    rw [wrp (by omega) (by omega), wrp (by omega) (by omega)]
  · rw [if_neg h, if_pos (by simpa using h)]
theorem impl_Drop_ev {k : Nat} (hk : 4294967302 ≤ k) (t : Thr) (key : ByteArray) (hs : Sm t) : asO (Thr × Bool) (evF cfg0 k 164 (t, key)) = some (dropF t key) := by
  obtain ⟨k, rfl, hk'⟩ := exS hk
  have e1 := impl_ThreeOk_ev (k := k) (by omega) t hs
  have e2 := impl_copyThree_ev (k := k) (by omega) t (by have := hs.1; omega) (by have := hs.2.1; omega) (by have := hs.2.2; omega)
  have hs1 := hs.1
  have hs2 := hs.2.1
  have e3 := slices_DeleteFunc__impl_Item_impl_Item_ev (k := k) (by omega) t.2.2.1 key (by omega)
  have e4 := slices_DeleteFunc__impl_Item_impl_Item_ev (k := k) (by omega) t.2.2.2.1 key (by omega)
  have l3 := butI_len key t.2.2.1
  have l4 := butI_len key t.2.2.2.1
  unfold dropF
  obtain ⟨c, m, s, a, g⟩ := t
  simp only at l3 l4 hs1 hs2
  rw [impl_Drop_eq, e1]
  simp only [Option.bind_some]
  by_cases h : TOk (c, m, s, a, g) = true
  · rw [h, if_pos rfl]
    simp only [Bool.not_true, Bool.false_eq_true, if_false]
    rw [e2]; simp only [Option.bind_some]
    rw [e3]; simp only [Option.bind_some]
    rw [e4]; simp only [Option.bind_some]
    rw [wrp (by omega) (by omega), wrp (by omega) (by omega)]
  · rw [if_neg h, if_pos (by simpa using h)]

/-! ### Put -/
def addF (t : Thr) (key val : ByteArray) (gone : List ByteArray) : Thr × List ByteArray × Bool :=
  (if hash key ∈ t.2.2.2.2 then (t.1, t.2.1, t.2.2.1, t.2.2.2.1 ++ [(key, val, 0)], but (hash key) t.2.2.2.2) else (t.1, t.2.1, t.2.2.1 ++ [(key, val, 0)], t.2.2.2.1, t.2.2.2.2), gone, true)
def putF (t : Thr) (key val : ByteArray) : Thr × List ByteArray × Bool :=
  if TOk t = true then if IOk (key, val, 0) = true then
    if (touchF t key true val).2.2 = true then ((touchF t key true val).1, [], true)
    else if ((t.2.2.1.length : Int) + t.2.2.2.1.length) < t.1 then addF t key val []
    else addF (evF1 t).1 key val [(evF1 t).2.1]
  else (thr0, [], false) else (thr0, [], false)
theorem spec_add_ev {k : Nat} (hk : 4294967302 ≤ k + 1) (key val : ByteArray) (hkey : key.size ≤ 20) (t : Thr) (gone : List ByteArray) (m : Nat) (h1 : t.2.2.1.length ≤ 1048577) (h2 : t.2.2.2.1.length ≤ 1048577) (h3 : t.2.2.2.2.length ≤ 1048577) (hc : (t.2.2.1.length : Int) + t.2.2.2.1.length < t.1) :
    spec_Put_l0 k (m + 1) key val t.1 t.2.1 gone t.2.2.1 t.2.2.2.1 t.2.2.2.2 = some (addF t key val gone) := by
  have e1 := spec_Hash_ev (k := k) (by omega) key (by omega)
  have e2 := spec_l03Has_ev (k := k) (by omega) t.2.2.2.2 (hash key) (by omega)
  have e3 := spec_l08But_ev (k := k) (by omega) t.2.2.2.2 (hash key) (by omega)
  rw [spec_Put_l0_eq, wrp (by omega) (by omega)]
  simp only [app_len]
  unfold addF
  by_cases h : hash key ∈ t.2.2.2.2
  · have : ¬ t.1 ≤ (t.2.2.1.length : Int) + t.2.2.2.1.length := by omega
    simp (disch := (first | assumption | omega)) only [if_pos, if_neg, if_t, if_f, not_true_eq_false, not_false_eq_true, Bool.false_eq_true, Bool.true_eq_false, eq_self, decide_true, decide_false, Bool.not_true, Bool.not_false, decide_eq_true_eq, Option.bind_some, Bool.not_eq_true', decide_eq_false_iff_not, this, e1, e2, e3, h, lim_3, lim_4, lim_9, lim_78, lim_121, lim_128, lim_137]
  · have : ¬ t.1 ≤ (t.2.2.1.length : Int) + t.2.2.2.1.length := by omega
    simp (disch := (first | assumption | omega)) only [if_pos, if_neg, if_t, if_f, not_true_eq_false, not_false_eq_true, Bool.false_eq_true, Bool.true_eq_false, eq_self, decide_true, decide_false, Bool.not_true, Bool.not_false, decide_eq_true_eq, Option.bind_some, Bool.not_eq_true', decide_eq_false_iff_not, this, e1, e2, e3, h, lim_3, lim_4, lim_9, lim_78, lim_121, lim_128, lim_137]
theorem impl_add_ev {k : Nat} (hk : 4294967302 ≤ k + 1) (key val : ByteArray) (hkey : key.size ≤ 20) (t : Thr) (gone : List ByteArray) (m : Nat) (h1 : t.2.2.1.length ≤ 1048577) (h2 : t.2.2.2.1.length ≤ 1048577) (h3 : t.2.2.2.2.length ≤ 1048577) (hc : (t.2.2.1.length : Int) + t.2.2.2.1.length < t.1) :
    impl_Put_l0 k (m + 1) key val t.1 t.2.1 gone t.2.2.1 t.2.2.2.1 t.2.2.2.2 = some (addF t key val gone) := by
  have e1 := impl_Hash_ev (k := k) (by omega) key (by omega)
  have e2 := slices_Contains__int_int_ev (k := k) (by omega) t.2.2.2.2 (hash key) (by omega)
  have e3 := slices_DeleteFunc__int_int_impl_Put_1_ev (k := k) (by omega) t.2.2.2.2 (hash key) (by omega)
  have lb := but_len (hash key) t.2.2.2.2
  have e4 := impl_copyThree_ev (k := k) (by omega) (t.1, t.2.1, t.2.2.1, t.2.2.2.1 ++ [(key, val, 0)], but (hash key) t.2.2.2.2) (by simp only; omega) (by simp only [List.length_append, List.length_cons, List.length_nil]; omega) (by simp only; omega)
  have e5 := impl_copyThree_ev (k := k) (by omega) (t.1, t.2.1, t.2.2.1 ++ [(key, val, 0)], t.2.2.2.1, t.2.2.2.2) (by simp only [List.length_append, List.length_cons, List.length_nil]; omega) (by simp only; omega) (by simp only; omega)
  rw [impl_Put_l0_eq, wrp (by omega) (by omega)]
  simp only [app_len]
  unfold addF
  by_cases h : hash key ∈ t.2.2.2.2
  · have : ¬ t.1 ≤ (t.2.2.1.length : Int) + t.2.2.2.1.length := by omega
    simp (disch := (first | assumption | omega)) only [if_pos, if_neg, if_t, if_f, not_true_eq_false, not_false_eq_true, Bool.false_eq_true, Bool.true_eq_false, eq_self, decide_true, decide_false, Bool.not_true, Bool.not_false, decide_eq_true_eq, Option.bind_some, Bool.not_eq_true', decide_eq_false_iff_not, this, e1, e2, e3, h, lim_3, lim_4, lim_9, lim_78, lim_121, lim_128, lim_137]
    rw [e4]; rfl
  · have : ¬ t.1 ≤ (t.2.2.1.length : Int) + t.2.2.2.1.length := by omega
    simp (disch := (first | assumption | omega)) only [if_pos, if_neg, if_t, if_f, not_true_eq_false, not_false_eq_true, Bool.false_eq_true, Bool.true_eq_false, eq_self, decide_true, decide_false, Bool.not_true, Bool.not_false, decide_eq_true_eq, Option.bind_some, Bool.not_eq_true', decide_eq_false_iff_not, this, e1, e2, e3, h, lim_3, lim_4, lim_9, lim_78, lim_121, lim_128, lim_137]
    rw [e5]; rfl
theorem spec_Put_ev {k : Nat} (hk : 4294967302 ≤ k) (t : Thr) (key val : ByteArray) (hs : Sm t) : asO (Thr × List ByteArray × Bool) (evF cfg0 k 158 (t, key, val)) = some (putF t key val) := by
  obtain ⟨k, rfl, hk'⟩ := exS hk
  obtain ⟨k', rfl⟩ : ∃ j, k = j + 1 + 1 := ⟨k - 2, by omega⟩
  have e1 := spec_ThreeOk_ev (k := k' + 1 + 1) (by omega) t hs
  have e2 := spec_ItemOk_ev (k := k' + 1 + 1) (by omega) (key, val, 0)
  have e3 := spec_l10Copy_ev (k := k' + 1 + 1) (by omega) t (by have := hs.1; omega) (by have := hs.2.1; omega) (by have := hs.2.2; omega)
  have e4 : TPr t → asO (Thr × ByteArray × Bool) (evF cfg0 (k' + 1 + 1) 185 (t, key, true, val)) = some (touchF t key true val) := fun h => spec_l10Touch_ev (by omega) t key true val hs.1 hs.2.1 h.fs h.fa (h.one key)
  have e5 : TPr t → asO (Thr × ByteArray × Bool) (evF cfg0 (k' + 1 + 1) 186 t) = some (evF1 t) := fun h => spec_Evict_ev (by omega) t h
  have e6 : IOk (key, val, 0) = true → ∀ (t : Thr) (gone : List ByteArray) (m : Nat) (h1 : t.2.2.1.length ≤ 1048577) (h2 : t.2.2.2.1.length ≤ 1048577) (h3 : t.2.2.2.2.length ≤ 1048577) (hc : (t.2.2.1.length : Int) + t.2.2.2.1.length < t.1), _ := fun h => spec_add_ev (k := k' + 1 + 1) hk key val (iok_key h)
  unfold putF
  obtain ⟨c, m, s, a, g⟩ := t
  rw [spec_Put_eq, e1]
  simp only [Option.bind_some]
  by_cases h : TOk (c, m, s, a, g) = true
  · have hp := (tok_iff _).1 h
    rw [h, if_pos rfl]
    simp only [Bool.not_true, Bool.false_eq_true, if_false]
    rw [e2]; simp only [Option.bind_some]
    by_cases hI : IOk (key, val, 0) = true
    · rw [hI, if_pos rfl]
      simp only [Bool.not_true, Bool.false_eq_true, if_false]
      rw [e3]; simp only [Option.bind_some]
      rw [e4 hp]; simp only [Option.bind_some]
      by_cases ht : (touchF (c, m, s, a, g) key true val).2.2 = true
      · rw [if_pos ht, if_pos ht]
      · rw [if_neg ht, if_neg ht]
        have et : (touchF (c, m, s, a, g) key true val).1 = (c, m, s, a, g) := by
          unfold touchF at ht ⊢; split
          · next q => rw [if_pos q] at ht; exact absurd rfl ht
          · next q => rw [if_neg q] at ht; split
                      · next q' => rw [if_pos q'] at ht; exact absurd rfl ht
                      · rfl
        rw [et]
        by_cases hc : (s.length : Int) + a.length < c
        · rw [if_pos hc]
          exact e6 hI (c, m, s, a, g) [] _ (by have := hp.sl; omega) (by have := hp.al; omega) (by have := hp.gl'; omega) hc
        · rw [if_neg hc]
          have hsl := hp.sl
          have hal := hp.al
          have hc1 := hp.c1
          have hln := hp.ln
          simp only at hsl hal hc1 hln
          have hr := ev1_res hp (by simp only; omega)
          simp only at hr
          rw [spec_Put_l0_eq]
          simp only
          rw [wrp (by omega) (by omega)]
          have hc' : c ≤ (s.length : Int) + a.length := by omega
          simp only [List.length_nil, List.length_cons]
          simp (disch := (first | assumption | omega)) only [if_pos, if_neg, if_t, if_f, not_true_eq_false, not_false_eq_true, Bool.false_eq_true, Bool.true_eq_false, eq_self, decide_true, decide_false, Bool.not_true, Bool.not_false, decide_eq_true_eq, Option.bind_some, Bool.not_eq_true', decide_eq_false_iff_not, hc', lim_3, lim_4, lim_9, lim_78, lim_121, lim_128, lim_137]
          rw [e5 hp]
          simp (disch := (first | assumption | omega)) only [if_pos, if_neg, if_t, if_f, not_true_eq_false, not_false_eq_true, Bool.false_eq_true, Bool.true_eq_false, eq_self, decide_true, decide_false, Bool.not_true, Bool.not_false, decide_eq_true_eq, Option.bind_some, Bool.not_eq_true', decide_eq_false_iff_not, lim_3, lim_4, lim_9, lim_78, lim_121, lim_128, lim_137, List.nil_append]
          exact e6 hI (evF1 (c, m, s, a, g)).1 _ _ (by omega) (by omega) (by omega) (by rw [hr.1]; omega)
    · rw [if_neg hI, if_pos (by simpa using hI)]
  · rw [if_neg h, if_pos (by simpa using h)]
theorem impl_Put_ev {k : Nat} (hk : 4294967302 ≤ k) (t : Thr) (key val : ByteArray) (hs : Sm t) : asO (Thr × List ByteArray × Bool) (evF cfg0 k 163 (t, key, val)) = some (putF t key val) := by
  obtain ⟨k, rfl, hk'⟩ := exS hk
  obtain ⟨k', rfl⟩ : ∃ j, k = j + 1 + 1 := ⟨k - 2, by omega⟩
  have hs1 := hs.1
  have hs2 := hs.2.1
  have e1 := impl_ThreeOk_ev (k := k' + 1 + 1) (by omega) t hs
  have e2 := impl_ItemOk_ev (k := k' + 1 + 1) (by omega) (key, val, 0)
  have e3 := impl_copyThree_ev (k := k' + 1 + 1) (by omega) t (by have := hs.1; omega) (by have := hs.2.1; omega) (by have := hs.2.2; omega)
  have e4 := impl_itemAt_ev (k := k' + 1 + 1) (by omega) t.2.2.1 key (by omega)
  have e4' := impl_itemAt_ev (k := k' + 1 + 1) (by omega) t.2.2.2.1 key (by omega)
  have e5 : TPr t → asO ((ByteArray × Bool) × Thr) (evF cfg0 (k' + 1 + 1) 191 t) = some ((evF1 t).2, (evF1 t).1) := fun h => impl_Three_evict_ev (by omega) t h
  have e6 : IOk (key, val, 0) = true → ∀ (t : Thr) (gone : List ByteArray) (m : Nat) (h1 : t.2.2.1.length ≤ 1048577) (h2 : t.2.2.2.1.length ≤ 1048577) (h3 : t.2.2.2.2.length ≤ 1048577) (hc : (t.2.2.1.length : Int) + t.2.2.2.1.length < t.1), _ := fun h => impl_add_ev (k := k' + 1 + 1) hk key val (iok_key h)
  unfold putF
  obtain ⟨c, m, s, a, g⟩ := t
  rw [impl_Put_eq, e1]
  simp only [Option.bind_some]
  by_cases h : TOk (c, m, s, a, g) = true
  · have hp := (tok_iff _).1 h
    rw [h, if_pos rfl]
    simp only [Bool.not_true, Bool.false_eq_true, if_false]
    rw [e2]; simp only [Option.bind_some]
    by_cases hI : IOk (key, val, 0) = true
    · rw [hI, if_pos rfl]
      simp only [Bool.not_true, Bool.false_eq_true, if_false]
      rw [e3]; simp only [Option.bind_some]
      rw [e4]; simp only [Option.bind_some]
      unfold touchF
      by_cases hi : 0 ≤ atF key s 0
      · have hi2 := atF_bd key s hi
        have fr := frq_at hp.fs hi hi2
        rw [getD_set (by omega), List.set_set]
        simp only
        rw [min3 fr.1 fr.2]
        simp (disch := (first | assumption | omega)) only [if_pos, if_neg, if_t, if_f, not_true_eq_false, not_false_eq_true, Bool.false_eq_true, Bool.true_eq_false, eq_self, decide_true, decide_false, Bool.not_true, Bool.not_false, decide_eq_true_eq, Option.bind_some, Bool.not_eq_true', decide_eq_false_iff_not, hi, tchF]
      · rw [e4']; simp only [Option.bind_some]
        by_cases hj : 0 ≤ atF key a 0
        · have hj2 := atF_bd key a hj
          have fr := frq_at hp.fa hj hj2
          rw [getD_set (l := a) (by omega), List.set_set (l := a)]
          simp only
          rw [min3 (n := (a.getD (atF key a 0).toNat (Ty.dflt tItem)).2.2) fr.1 fr.2]
          simp (disch := (first | assumption | omega)) only [if_pos, if_neg, if_t, if_f, not_true_eq_false, not_false_eq_true, Bool.false_eq_true, Bool.true_eq_false, eq_self, decide_true, decide_false, Bool.not_true, Bool.not_false, decide_eq_true_eq, Option.bind_some, Bool.not_eq_true', decide_eq_false_iff_not, hi, hj, tchF]
        · simp (disch := (first | assumption | omega)) only [if_pos, if_neg, if_t, if_f, not_true_eq_false, not_false_eq_true, Bool.false_eq_true, Bool.true_eq_false, eq_self, decide_true, decide_false, Bool.not_true, Bool.not_false, decide_eq_true_eq, Option.bind_some, Bool.not_eq_true', decide_eq_false_iff_not, hi, hj]
          by_cases hc : (s.length : Int) + a.length < c
          · rw [if_pos hc]
            exact e6 hI (c, m, s, a, g) [] _ (by have := hp.sl; omega) (by have := hp.al; omega) (by have := hp.gl'; omega) hc
          · rw [if_neg hc]
            have hsl := hp.sl
            have hal := hp.al
            have hc1 := hp.c1
            have hln := hp.ln
            simp only at hsl hal hc1 hln
            have hr := ev1_res hp (by simp only; omega)
            simp only at hr
            rw [impl_Put_l0_eq, wrp (by omega) (by omega)]
            have hc' : c ≤ (s.length : Int) + a.length := by omega
            simp only [List.length_nil, List.length_cons]
            simp (disch := (first | assumption | omega)) only [if_pos, if_neg, if_t, if_f, not_true_eq_false, not_false_eq_true, Bool.false_eq_true, Bool.true_eq_false, eq_self, decide_true, decide_false, Bool.not_true, Bool.not_false, decide_eq_true_eq, Option.bind_some, Bool.not_eq_true', decide_eq_false_iff_not, hc', lim_3, lim_4, lim_9, lim_78, lim_121, lim_128, lim_137]
            rw [e5 hp]
            simp (disch := (first | assumption | omega)) only [if_pos, if_neg, if_t, if_f, not_true_eq_false, not_false_eq_true, Bool.false_eq_true, Bool.true_eq_false, eq_self, decide_true, decide_false, Bool.not_true, Bool.not_false, decide_eq_true_eq, Option.bind_some, Bool.not_eq_true', decide_eq_false_iff_not, lim_3, lim_4, lim_9, lim_78, lim_121, lim_128, lim_137, List.nil_append]
            exact e6 hI (evF1 (c, m, s, a, g)).1 _ _ (by omega) (by omega) (by omega) (by rw [hr.1]; omega)
    · rw [if_neg hI, if_pos (by simpa using hI)]
  · rw [if_neg h, if_pos (by simpa using h)]
end Go.Proofs.Ytgnnljpdcafdkaa.Ev

/- The laws' helpers for a cache. -/
namespace Go.Proofs.Ytgnnljpdcafdkaa.Ev
open Go
set_option linter.unusedVariables false

def mkThree (t : Thr) (n : Int) : Thr := (t.1, t.2.1, mkL mkItem ((3 : Nat) : Int) n t.2.2.1.length, mkL mkItem ((3 : Nat) : Int) (n + ((3 : Nat) : Int) * t.2.2.1.length) t.2.2.2.1.length, mkL mkInt ((1 : Nat) : Int) (n + ((3 : Nat) : Int) * t.2.2.1.length + ((3 : Nat) : Int) * t.2.2.2.1.length) t.2.2.2.2.length)
def endThree (t : Thr) (n : Int) : Int := n + ((3 : Nat) : Int) * t.2.2.1.length + ((3 : Nat) : Int) * t.2.2.2.1.length + ((1 : Nat) : Int) * t.2.2.2.2.length
theorem endThree_bd (t : Thr) (hs : Sm t) (n : Int) : n ≤ endThree t n ∧ endThree t n ≤ n + 10000000 := by
  have h1 := hs.1
  have h2 := hs.2.1
  have h3 := hs.2.2
  unfold endThree
  omega
def BdI (l : List Itm) : Prop := ∀ x ∈ l, x.1.size ≤ 1048576 ∧ x.2.1.size ≤ 1048576
theorem laws_szThree_ev {k : Nat} (hk : 4294967299 ≤ k) (t : Thr) (n : Int) (hs : Sm t) (h0 : 0 ≤ n) (h1 : n ≤ 1048576) (b1 : BdI t.2.2.1) (b2 : BdI t.2.2.2.1) : ∃ r, asO Int (evF cfg0 k 29 (t, n)) = some r ∧ -1 ≤ r ∧ r ≤ 1048576 := by
  obtain ⟨k, rfl, hk⟩ := exS hk
  obtain ⟨c, m, s, a, g⟩ := t
  obtain ⟨hs1, hs2, hs3⟩ := hs
  simp only at hs1 hs2 hs3 b1 b2
  obtain ⟨r1, e1, p1, q1⟩ := laws_szItemS_ev (k := k) (by omega) s n (by omega) h0 h1 b1
  rw [laws_szThree_eq, e1]
  simp only [Option.bind_some, decide_eq_true_eq]
  split
  · exact ⟨-1, rfl, by omega, by omega⟩
  · obtain ⟨r2, e2, p2, q2⟩ := laws_szItemS_ev (k := k) (by omega) a r1 (by omega) (by omega) q1 b2
    rw [e2]
    simp only [Option.bind_some]
    split
    · exact ⟨-1, rfl, by omega, by omega⟩
    · obtain ⟨r3, e3, p3, q3⟩ := laws_szIntS_ev (k := k) (by omega) g r2 (by omega) (by omega) q2
      rw [e3]
      simp only [Option.bind_some]
      split
      · exact ⟨-1, rfl, by omega, by omega⟩
      · exact ⟨r3, rfl, by omega, by omega⟩
theorem laws_toThree_ev {k : Nat} (hk : 4294967299 ≤ k) (t : Thr) (hs : Sm t) : asO Thr (evF cfg0 k 32 t) = some t := by
  obtain ⟨k, rfl, hk⟩ := exS hk
  obtain ⟨c, m, s, a, g⟩ := t
  obtain ⟨hs1, hs2, hs3⟩ := hs
  simp only at hs1 hs2 hs3
  have e1 := laws_toItemS_ev (k := k) (by omega) s (by omega)
  have e2 := laws_toItemS_ev (k := k) (by omega) a (by omega)
  have e3 := laws_toIntS_ev (k := k) (by omega) g (by omega)
  rw [laws_toThree_eq]
  simp (disch := (first | assumption | omega)) only [if_pos, if_neg, if_t, if_f, not_true_eq_false, not_false_eq_true, Bool.false_eq_true, Bool.true_eq_false, eq_self, decide_true, decide_false, Bool.not_true, Bool.not_false, decide_eq_true_eq, Option.bind_some, Bool.not_eq_true', decide_eq_false_iff_not, e1, e2, e3]
theorem laws_eqThree_ev {k : Nat} (hk : 4294967299 ≤ k) (t : Thr) (hs : Sm t) : asO Bool (evF cfg0 k 13 (t, t)) = some true := by
  obtain ⟨k, rfl, hk⟩ := exS hk
  obtain ⟨c, m, s, a, g⟩ := t
  obtain ⟨hs1, hs2, hs3⟩ := hs
  simp only at hs1 hs2 hs3
  have e1 := laws_eqItemS_ev (k := k) (by omega) s (by omega)
  have e2 := laws_eqItemS_ev (k := k) (by omega) a (by omega)
  have e3 := laws_eqIntS_ev (k := k) (by omega) g (by omega)
  rw [laws_eqThree_eq]
  simp (disch := (first | assumption | omega)) only [if_pos, if_neg, if_t, if_f, not_true_eq_false, not_false_eq_true, Bool.false_eq_true, Bool.true_eq_false, eq_self, decide_true, decide_false, Bool.not_true, Bool.not_false, decide_eq_true_eq, Option.bind_some, Bool.not_eq_true', decide_eq_false_iff_not, e1, e2, e3]
theorem laws_markThree_ev {k : Nat} (hk : 4294967299 + 1 ≤ k) (t : Thr) (n : Int) (hs : Sm t) (h0 : 0 ≤ n) (h1 : n ≤ 900000000) : asO (Int × Thr) (evF cfg0 k 14 (t, n)) = some (endThree t n, mkThree t n) := by
  obtain ⟨k, rfl, hk⟩ := exS hk
  obtain ⟨c, m, s, a, g⟩ := t
  obtain ⟨hs1, hs2, hs3⟩ := hs
  simp only at hs1 hs2 hs3
  have e1 := laws_markItemS_ev (k := k) (by omega) s n (by omega) h0 (by omega)
  have e2 := laws_markItemS_ev (k := k) (by omega) a (n + ((3 : Nat) : Int) * s.length) (by omega) (by omega) (by omega)
  have e3 := laws_markIntS_ev (k := k) (by omega) g (n + ((3 : Nat) : Int) * s.length + ((3 : Nat) : Int) * a.length) (by omega) (by omega) (by omega)
  rw [laws_markThree_eq]
  simp (disch := (first | assumption | omega)) only [if_pos, if_neg, if_t, if_f, not_true_eq_false, not_false_eq_true, Bool.false_eq_true, Bool.true_eq_false, eq_self, decide_true, decide_false, Bool.not_true, Bool.not_false, decide_eq_true_eq, Option.bind_some, Bool.not_eq_true', decide_eq_false_iff_not, e1, e2, e3, endThree, mkThree]
theorem laws_heldThree_ev {k : Nat} (hk : 4294967299 + 1 ≤ k) (t : Thr) (n : Int) (hs : Sm t) (h0 : 0 ≤ n) (h1 : n ≤ 900000000) : asO Int (evF cfg0 k 15 (mkThree t n, n)) = some (endThree t n) := by
  obtain ⟨k, rfl, hk⟩ := exS hk
  obtain ⟨c, m, s, a, g⟩ := t
  obtain ⟨hs1, hs2, hs3⟩ := hs
  simp only at hs1 hs2 hs3
  have e1 := laws_heldItemS_ev (k := k) (by omega) n s.length (by omega) h0 (by omega)
  have e2 := laws_heldItemS_ev (k := k) (by omega) (n + ((3 : Nat) : Int) * s.length) a.length (by omega) (by omega) (by omega)
  have e3 := laws_heldIntS_ev (k := k) (by omega) (n + ((3 : Nat) : Int) * s.length + ((3 : Nat) : Int) * a.length) g.length (by omega) (by omega) (by omega)
  unfold mkThree
  rw [laws_heldThree_eq]
  have q1 : ¬ n + ((3 : Nat) : Int) * s.length < 0 := by omega
  have q2 : ¬ n + ((3 : Nat) : Int) * s.length + ((3 : Nat) : Int) * a.length < 0 := by omega
  have q3 : ¬ n + ((3 : Nat) : Int) * s.length + ((3 : Nat) : Int) * a.length + ((1 : Nat) : Int) * g.length < 0 := by omega
  simp (disch := (first | assumption | omega)) only [if_pos, if_neg, if_t, if_f, not_true_eq_false, not_false_eq_true, Bool.false_eq_true, Bool.true_eq_false, eq_self, decide_true, decide_false, Bool.not_true, Bool.not_false, decide_eq_true_eq, Option.bind_some, Bool.not_eq_true', decide_eq_false_iff_not, e1, e2, e3, endThree, q1, q2, q3]
end Go.Proofs.Ytgnnljpdcafdkaa.Ev

/- The law of OpsDo, over what the functions compute. -/
namespace Go.Proofs.Ytgnnljpdcafdkaa.Ev
open Go
set_option linter.unusedVariables false

def oOk (o : Opp) : Bool := decide (1 ≤ o.1) && decide (o.1 ≤ 3) && IOk (o.2.1, o.2.2, 0) && (decide (o.1 = 2) || decide (o.2.2 = (⟨#[]⟩ : ByteArray)))
theorem spec_OpOk_ev {k : Nat} (hk : 4294967299 ≤ k) (o : Opp) : asO Bool (evF cfg0 k 156 o) = some (oOk o) := by
  obtain ⟨k, rfl, hk⟩ := exS hk
  obtain ⟨n, key, v⟩ := o
  rw [spec_OpOk_eq, spec_ItemOk_ev (by omega)]
  unfold oOk
  by_cases h1 : 1 ≤ n
  · by_cases h2 : n ≤ 3
    · by_cases h3 : IOk (key, v, 0) = true
      · by_cases h4 : n = 2
        · subst h4; simp [h3]
        · simp [h1, h2, h3, h4, seq_dec]
      · simp only [Bool.not_eq_true] at h3
        simp [h1, h2, h3]
    · simp [h1, h2]
  · simp [h1]
theorem impl_OpOk_ev {k : Nat} (hk : 4294967299 ≤ k) (o : Opp) : asO Bool (evF cfg0 k 118 o) = some (oOk o) := by
  obtain ⟨k, rfl, hk⟩ := exS hk
  obtain ⟨n, key, v⟩ := o
  rw [impl_OpOk_eq, impl_within_ev (by omega), impl_ItemOk_ev (by omega)]
  unfold oOk
  by_cases h1 : 1 ≤ n
  · by_cases h2 : n ≤ 3
    · by_cases h3 : IOk (key, v, 0) = true
      · by_cases h4 : n = 2
        · subst h4; simp [h3]
        · simp [h1, h2, h3, h4, seq_dec]
      · simp only [Bool.not_eq_true] at h3
        simp [h1, h2, h3]
    · simp [h1, h2]
  · simp [h1]

abbrev rpl0 : Rpl := (false, (⟨#[]⟩ : ByteArray), (⟨#[]⟩ : ByteArray))
def doF (t : Thr) (o : Opp) : Thr × Rpl × Bool :=
  if TOk t = true then if oOk o = true then
    if o.1 = 1 then ((getF t o.2.1).1, ((getF t o.2.1).2.2, (getF t o.2.1).2.1, (⟨#[]⟩ : ByteArray)), true)
    else if o.1 = 2 then ((putF t o.2.1 o.2.2).1, (true, (⟨#[]⟩ : ByteArray), (putF t o.2.1 o.2.2).2.1.getD 0 (⟨#[]⟩ : ByteArray)), true)
    else ((dropF t o.2.1).1, ((dropF t o.2.1).2, (⟨#[]⟩ : ByteArray), (⟨#[]⟩ : ByteArray)), true)
  else (thr0, rpl0, false) else (thr0, rpl0, false)
theorem put_gone (t : Thr) (key val : ByteArray) : (putF t key val).2.1.length ≤ 1 := by
  unfold putF addF; repeat' split
  all_goals simp
theorem put_sm {t : Thr} (h : Sm t) (key val : ByteArray) : Sm (putF t key val).1 := by
  unfold putF
  by_cases h1 : TOk t = true
  · rw [if_pos h1]
    have hp := (tok_iff _).1 h1
    have l1 := hp.sl
    have l2 := hp.al
    have l3 := hp.gl'
    split
    · split
      · unfold touchF tchF Sm; repeat' split
        all_goals simp only [List.length_set]
        all_goals omega
      · have l4 := but_len (hash key) t.2.2.2.2
        split
        · unfold addF Sm; split
          all_goals simp only [List.length_append, List.length_cons, List.length_nil]
          all_goals omega
        · next q =>
          have hr := ev1_res hp (by have := hp.c1; omega)
          have l5 := but_len (hash key) (evF1 t).1.2.2.2.2
          unfold addF Sm; split
          all_goals simp only [List.length_append, List.length_cons, List.length_nil]
          all_goals omega
    · exact ⟨by simp, by simp, by simp⟩
  · rw [if_neg h1]; exact ⟨by simp, by simp, by simp⟩
theorem get_sm {t : Thr} (h : Sm t) (key : ByteArray) : Sm (getF t key).1 := by
  obtain ⟨a, b, c⟩ := h
  unfold getF
  split
  · unfold touchF tchF Sm; repeat' split
    all_goals simp only [List.length_set]
    all_goals omega
  · exact ⟨by simp, by simp, by simp⟩
theorem drop_sm {t : Thr} (h : Sm t) (key : ByteArray) : Sm (dropF t key).1 := by
  obtain ⟨a, b, c⟩ := h
  unfold dropF
  have l1 := butI_len key t.2.2.1
  have l2 := butI_len key t.2.2.2.1
  split
  · exact ⟨by simp only; omega, by simp only; omega, c⟩
  · exact ⟨by simp, by simp, by simp⟩
theorem do_sm {t : Thr} (h : Sm t) (o : Opp) : Sm (doF t o).1 := by
  unfold doF
  split
  · split
    · split
      · exact get_sm h _
      · split
        · exact put_sm h _ _
        · exact drop_sm h _
    · exact ⟨by simp, by simp, by simp⟩
  · exact ⟨by simp, by simp, by simp⟩
theorem spec_OpDo_l0_ev {k : Nat} (r : Thr × List ByteArray × Bool) (hr : r.2.1.length ≤ 1) (m : Nat) (hm : 2 ≤ m) : spec_OpDo_l0 k m r 0 (⟨#[]⟩ : ByteArray) = some (r.1, (true, (⟨#[]⟩ : ByteArray), r.2.1.getD 0 (⟨#[]⟩ : ByteArray)), true) := by
  obtain ⟨m, rfl⟩ : ∃ j, m = j + 1 + 1 := ⟨m - 2, by omega⟩
  obtain ⟨t, l, b⟩ := r
  simp only at hr ⊢
  match l, hr with
  | [], _ => rw [spec_OpDo_l0_eq]; simp (disch := (first | assumption | omega)) only [if_pos, if_neg, if_t, if_f, not_true_eq_false, not_false_eq_true, Bool.false_eq_true, Bool.true_eq_false, eq_self, decide_true, decide_false, Bool.not_true, Bool.not_false, decide_eq_true_eq, Option.bind_some, Bool.not_eq_true', decide_eq_false_iff_not, List.length_nil]; rfl
  | [x], _ =>
    rw [spec_OpDo_l0_eq]
    simp (disch := (first | assumption | omega)) only [if_pos, if_neg, if_t, if_f, not_true_eq_false, not_false_eq_true, Bool.false_eq_true, Bool.true_eq_false, eq_self, decide_true, decide_false, Bool.not_true, Bool.not_false, decide_eq_true_eq, Option.bind_some, Bool.not_eq_true', decide_eq_false_iff_not, List.length_cons, List.length_nil, wrp]
    rw [spec_OpDo_l0_eq]
    simp (disch := (first | assumption | omega)) only [if_pos, if_neg, if_t, if_f, not_true_eq_false, not_false_eq_true, Bool.false_eq_true, Bool.true_eq_false, eq_self, decide_true, decide_false, Bool.not_true, Bool.not_false, decide_eq_true_eq, Option.bind_some, Bool.not_eq_true', decide_eq_false_iff_not, List.length_cons, List.length_nil]
    rfl
theorem spec_OpDo_ev {k : Nat} (hk : 4294967303 ≤ k) (t : Thr) (o : Opp) (hs : Sm t) : asO (Thr × Rpl × Bool) (evF cfg0 k 93 (t, o)) = some (doF t o) := by
  obtain ⟨k, rfl, hk'⟩ := exS hk
  have e1 := spec_ThreeOk_ev (k := k) (by omega) t hs
  have e2 := spec_OpOk_ev (k := k) (by omega) o
  have e3 := spec_Get_ev (k := k) (by omega) t o.2.1 hs
  have e4 := spec_Put_ev (k := k) (by omega) t o.2.1 o.2.2 hs
  have e5 := spec_Drop_ev (k := k) (by omega) t o.2.1 hs
  have e6 := spec_OpDo_l0_ev (k := k) (putF t o.2.1 o.2.2) (put_gone _ _ _) k (by omega)
  unfold doF
  obtain ⟨c, m, s, a, g⟩ := t
  obtain ⟨n, key, v⟩ := o
  rw [spec_OpDo_eq, e1]
  simp only [Option.bind_some]
  by_cases h1 : TOk (c, m, s, a, g) = true
  · rw [if_pos h1, h1, e2]
    simp only [Option.bind_some, Bool.not_true, Bool.false_eq_true, if_false]
    by_cases h2 : oOk (n, key, v) = true
    · rw [if_pos h2, h2]
      simp only [Bool.not_true, Bool.false_eq_true, if_false, decide_eq_true_eq]
      rw [e3, e4, e5]
      simp only [Option.bind_some]
      rw [e6]
      by_cases h3 : n = 1
      · rw [if_pos h3, if_pos h3]
      · rw [if_neg h3, if_neg h3]
        by_cases h4 : n = 2
        · rw [if_pos h4, if_pos h4]
        · rw [if_neg h4, if_neg h4]
    · rw [if_neg h2, if_pos (by simpa using h2)]
  · rw [if_neg h1, if_pos (by simpa using h1)]
theorem impl_OpDo_ev {k : Nat} (hk : 4294967303 ≤ k) (t : Thr) (o : Opp) (hs : Sm t) : asO (Thr × Rpl × Bool) (evF cfg0 k 98 (t, o)) = some (doF t o) := by
  obtain ⟨k, rfl, hk'⟩ := exS hk
  have e1 := impl_ThreeOk_ev (k := k) (by omega) t hs
  have e2 := impl_OpOk_ev (k := k) (by omega) o
  have e3 := impl_Get_ev (k := k) (by omega) t o.2.1 hs
  have e4 := impl_Put_ev (k := k) (by omega) t o.2.1 o.2.2 hs
  have e5 := impl_Drop_ev (k := k) (by omega) t o.2.1 hs
  unfold doF
  obtain ⟨c, m, s, a, g⟩ := t
  obtain ⟨n, key, v⟩ := o
  rw [impl_OpDo_eq, e1]
  simp only [Option.bind_some]
  by_cases h1 : TOk (c, m, s, a, g) = true
  · rw [if_pos h1, h1, e2]
    simp only [Option.bind_some, Bool.not_true, Bool.false_eq_true, if_false]
    by_cases h2 : oOk (n, key, v) = true
    · rw [if_pos h2, h2]
      simp only [Bool.not_true, Bool.false_eq_true, if_false, decide_eq_true_eq]
      rw [e3, e4, e5]
      simp only [Option.bind_some]
      by_cases h3 : n = 1
      · rw [if_pos h3, if_pos h3]
      · rw [if_neg h3, if_neg h3]
        by_cases h4 : n = 2
        · rw [if_pos h4, if_pos h4]
          by_cases h5 : (0 : Int) < ((putF (c, m, s, a, g) key v).2.1.length : Int)
          · rw [if_pos h5, if_pos h5]
          · rw [if_neg h5]
            have : (putF (c, m, s, a, g) key v).2.1 = [] := List.eq_nil_of_length_eq_zero (by omega)
            rw [this]; rfl
        · rw [if_neg h4, if_neg h4]
    · rw [if_neg h2, if_pos (by simpa using h2)]
  · rw [if_neg h1, if_pos (by simpa using h1)]

def opsG : Thr → List Opp → List Rpl → Thr × List Rpl
  | t, [], acc => (t, acc)
  | t, o :: r, acc => if (doF t o).2.2 = true then opsG (doF t o).1 r (acc ++ [(doF t o).2.1]) else (t, acc)
theorem opsG_sm : ∀ (l : List Opp) (t : Thr) (acc : List Rpl), Sm t → Sm (opsG t l acc).1 ∧ (opsG t l acc).2.length ≤ acc.length + l.length
  | [], t, acc, h => ⟨h, by simp [opsG]⟩
  | o :: r, t, acc, h => by
    unfold opsG
    split
    · have := opsG_sm r _ (acc ++ [(doF t o).2.1]) (do_sm h o)
      simp only [List.length_append, List.length_cons, List.length_nil] at this ⊢
      exact ⟨this.1, by omega⟩
    · exact ⟨h, by simp⟩
def opsF (t : Thr) (l : List Opp) : Thr × List Rpl := if TOk t = true then opsG t l [] else (thr0, [])
theorem opsF_sm (t : Thr) (l : List Opp) (h : Sm t) : Sm (opsF t l).1 ∧ (opsF t l).2.length ≤ l.length := by
  unfold opsF
  split
  · have := opsG_sm l t [] h
    simpa using this
  · exact ⟨⟨by simp, by simp, by simp⟩, by simp⟩
theorem spec_OpsDo_l0_ev {k : Nat} (hk : 4294967303 ≤ k) (l : List Opp) (hl : l.length ≤ 4194304) : ∀ (m : Nat) (i : Int) (t : Thr) (acc : List Rpl), 0 ≤ i → i ≤ l.length → l.length < i + m → acc.length ≤ i → Sm t →
    spec_OpsDo_l0 k m l i t.1 t.2.1 acc t.2.2.1 t.2.2.2.1 t.2.2.2.2 = some (opsG t (l.drop i.toNat) acc) := by
  intro m
  induction m with
  | zero => intro i t acc h0 h1 h2; omega
  | succ m ih =>
    intro i t acc h0 h1 h2 h3 h4
    rw [spec_OpsDo_l0_eq]
    by_cases h : i < (l.length : Int)
    · have e := spec_OpDo_ev (k := k) hk t (l.getD i.toNat (Ty.dflt tOp)) h4
      have hd := do_sm h4 (l.getD i.toNat (Ty.dflt tOp))
      have e' : asO (Thr × Rpl × Bool) (evF cfg0 k 93 ((t.1, t.2.1, t.2.2.1, t.2.2.2.1, t.2.2.2.2), l.getD i.toNat (Ty.dflt tOp))) = some (doF t (l.getD i.toNat (Ty.dflt tOp))) := e
      rw [dropC (d := Ty.dflt tOp) h0 h, e']
      unfold opsG
      by_cases h5 : (doF t (l.getD i.toNat (Ty.dflt tOp))).2.2 = true
      · have w : IntKind.wrap .i64 (i + 1) = i + 1 := wrp (by omega) (by omega)
        simp (disch := (first | assumption | omega)) only [if_pos, if_neg, if_t, if_f, not_true_eq_false, not_false_eq_true, Bool.false_eq_true, Bool.true_eq_false, eq_self, decide_true, decide_false, Bool.not_true, Bool.not_false, decide_eq_true_eq, Option.bind_some, Bool.not_eq_true', decide_eq_false_iff_not, h5, w, app_len, lim_3, lim_4, lim_9, lim_78, lim_121, lim_128, lim_137]
        refine ih (i + 1) _ _ (by omega) (by omega) (by omega) ?_ hd
        simp only [List.length_append, List.length_cons, List.length_nil]; omega
      · have h6 : (doF t (l.getD i.toNat (Ty.dflt tOp))).2.2 = false := by simpa using h5
        simp (disch := (first | assumption | omega)) only [if_pos, if_neg, if_t, if_f, not_true_eq_false, not_false_eq_true, Bool.false_eq_true, Bool.true_eq_false, eq_self, decide_true, decide_false, Bool.not_true, Bool.not_false, decide_eq_true_eq, Option.bind_some, Bool.not_eq_true', decide_eq_false_iff_not, h6]
    · rw [dropN h0 h]
      simp (disch := (first | assumption | omega)) only [if_pos, if_neg, if_t, if_f, not_true_eq_false, not_false_eq_true, Bool.false_eq_true, Bool.true_eq_false, eq_self, decide_true, decide_false, Bool.not_true, Bool.not_false, decide_eq_true_eq, Option.bind_some, Bool.not_eq_true', decide_eq_false_iff_not, h, opsG]
theorem spec_OpsDo_ev {k : Nat} (hk : 4294967304 ≤ k) (t : Thr) (l : List Opp) (hs : Sm t) (hl : l.length ≤ 4194304) : asO (Thr × List Rpl) (evF cfg0 k 31 (t, l)) = some (opsF t l) := by
  obtain ⟨k, rfl, hk'⟩ := exS hk
  have e1 := spec_ThreeOk_ev (k := k) (by omega) t hs
  have e2 := spec_l10Copy_ev (k := k) (by omega) t (by have := hs.1; omega) (by have := hs.2.1; omega) (by have := hs.2.2; omega)
  have e3 := spec_OpsDo_l0_ev (k := k) (by omega) l hl k 0 t [] (by omega) (by omega) (by omega) (by simp) hs
  unfold opsF
  obtain ⟨c, m, s, a, g⟩ := t
  rw [spec_OpsDo_eq, e1]
  simp only [Option.bind_some]
  by_cases h : TOk (c, m, s, a, g) = true
  · rw [h, if_pos rfl]
    simp only [Bool.not_true, Bool.false_eq_true, if_false]
    rw [e2]; simp only [Option.bind_some]
    exact e3
  · rw [if_neg h, if_pos (by simpa using h)]
theorem impl_OpsDo_l0_ev {k : Nat} (hk : 4294967303 ≤ k) (l : List Opp) (hl : l.length ≤ 4194304) : ∀ (m : Nat) (i : Int) (t : Thr) (acc : List Rpl), 0 ≤ i → i ≤ l.length → l.length < i + m → acc.length ≤ i → Sm t →
    impl_OpsDo_l0 k m l i t.1 t.2.1 acc t.2.2.1 t.2.2.2.1 t.2.2.2.2 = some (opsG t (l.drop i.toNat) acc) := by
  intro m
  induction m with
  | zero => intro i t acc h0 h1 h2; omega
  | succ m ih =>
    intro i t acc h0 h1 h2 h3 h4
    rw [impl_OpsDo_l0_eq]
    by_cases h : i < (l.length : Int)
    · have e := impl_OpDo_ev (k := k) hk t (l.getD i.toNat (Ty.dflt tOp)) h4
      have hd := do_sm h4 (l.getD i.toNat (Ty.dflt tOp))
      have e' : asO (Thr × Rpl × Bool) (evF cfg0 k 98 ((t.1, t.2.1, t.2.2.1, t.2.2.2.1, t.2.2.2.2), l.getD i.toNat (Ty.dflt tOp))) = some (doF t (l.getD i.toNat (Ty.dflt tOp))) := e
      rw [dropC (d := Ty.dflt tOp) h0 h, e']
      unfold opsG
      by_cases h5 : (doF t (l.getD i.toNat (Ty.dflt tOp))).2.2 = true
      · have w : IntKind.wrap .i64 (i + 1) = i + 1 := wrp (by omega) (by omega)
        simp (disch := (first | assumption | omega)) only [if_pos, if_neg, if_t, if_f, not_true_eq_false, not_false_eq_true, Bool.false_eq_true, Bool.true_eq_false, eq_self, decide_true, decide_false, Bool.not_true, Bool.not_false, decide_eq_true_eq, Option.bind_some, Bool.not_eq_true', decide_eq_false_iff_not, h5, w, app_len, lim_3, lim_4, lim_9, lim_78, lim_121, lim_128, lim_137]
        refine ih (i + 1) _ _ (by omega) (by omega) (by omega) ?_ hd
        simp only [List.length_append, List.length_cons, List.length_nil]; omega
      · have h6 : (doF t (l.getD i.toNat (Ty.dflt tOp))).2.2 = false := by simpa using h5
        simp (disch := (first | assumption | omega)) only [if_pos, if_neg, if_t, if_f, not_true_eq_false, not_false_eq_true, Bool.false_eq_true, Bool.true_eq_false, eq_self, decide_true, decide_false, Bool.not_true, Bool.not_false, decide_eq_true_eq, Option.bind_some, Bool.not_eq_true', decide_eq_false_iff_not, h6]
    · rw [dropN h0 h]
      simp (disch := (first | assumption | omega)) only [if_pos, if_neg, if_t, if_f, not_true_eq_false, not_false_eq_true, Bool.false_eq_true, Bool.true_eq_false, eq_self, decide_true, decide_false, Bool.not_true, Bool.not_false, decide_eq_true_eq, Option.bind_some, Bool.not_eq_true', decide_eq_false_iff_not, h, opsG]
theorem impl_OpsDo_ev {k : Nat} (hk : 4294967304 ≤ k) (t : Thr) (l : List Opp) (hs : Sm t) (hl : l.length ≤ 4194304) : asO (Thr × List Rpl) (evF cfg0 k 34 (t, l)) = some (opsF t l) := by
  obtain ⟨k, rfl, hk'⟩ := exS hk
  have e1 := impl_ThreeOk_ev (k := k) (by omega) t hs
  have e2 := impl_copyThree_ev (k := k) (by omega) t (by have := hs.1; omega) (by have := hs.2.1; omega) (by have := hs.2.2; omega)
  have e3 := impl_OpsDo_l0_ev (k := k) (by omega) l hl k 0 t [] (by omega) (by omega) (by omega) (by simp) hs
  unfold opsF
  obtain ⟨c, m, s, a, g⟩ := t
  rw [impl_OpsDo_eq, e1]
  simp only [Option.bind_some]
  by_cases h : TOk (c, m, s, a, g) = true
  · rw [h, if_pos rfl]
    simp only [Bool.not_true, Bool.false_eq_true, if_false]
    rw [e2]; simp only [Option.bind_some]
    exact e3
  · rw [if_neg h, if_pos (by simpa using h)]

theorem opsdo_law {k : Nat} (hk : 4294967396 ≤ k) (t : Thr) (l : List Opp) (hs : Sm t) (hl : l.length ≤ 1048576) (b1 : BdI t.2.2.1) (b2 : BdI t.2.2.2.1) (b3 : ∀ o ∈ l, o.2.1.size ≤ 1048576 ∧ o.2.2.size ≤ 1048576) : asO Bool (evF cfg0 (k + 1) 6 (t, l)) = some true := by
  obtain ⟨r1, e1, p1, q1⟩ := laws_szThree_ev (k := k) (by omega) t 1048576 hs (by omega) (by omega) b1 b2
  have e3 := laws_toThree_ev (k := k) (by omega) t hs
  have e4 := laws_toOpS_ev (k := k) (by omega) l (by omega)
  have e5 := spec_OpsDo_ev (k := k) (by omega) t l hs (by omega)
  have e6 := impl_OpsDo_ev (k := k) (by omega) t l hs (by omega)
  obtain ⟨ws, wl⟩ := opsF_sm t l hs
  have e7 := laws_eqThree_ev (k := k) (by omega) (opsF t l).1 ws
  have e8 := laws_eqReplyS_ev (k := k) (by omega) (opsF t l).2 (by omega)
  have e9 := laws_eqThree_ev (k := k) (by omega) t hs
  have e10 := laws_eqOpS_ev (k := k) (by omega) l (by omega)
  have e11 := laws_markThree_ev (k := k) (by omega) t 1 hs (by omega) (by omega)
  have c1 := endThree_bd t hs 1
  have e12 := laws_markOpS_ev (k := k) (by omega) l (endThree t 1) (by omega) (by omega) (by omega)
  have e13 := laws_markThree_ev (k := k) (by omega) (opsF t l).1 1 ws (by omega) (by omega)
  have c2 := endThree_bd (opsF t l).1 ws 1
  have e14 := laws_markReplyS_ev (k := k) (by omega) (opsF t l).2 (endThree (opsF t l).1 1) (by omega) (by omega) (by omega)
  have e15 : asO Int (evF cfg0 k 15 (((opsF t l).1.1, (opsF t l).1.2.1, (mkThree (opsF t l).1 1).2.2), 1)) = some (endThree (opsF t l).1 1) := laws_heldThree_ev (k := k) (by omega) (opsF t l).1 1 ws (by omega) (by omega)
  have e16 := laws_heldReplyS_ev (k := k) (by omega) (endThree (opsF t l).1 1) (opsF t l).2.length (by omega) (by omega) (by omega)
  have n1 : ¬ endThree t 1 + ((3 : Nat) : Int) * l.length < 0 := by omega
  have n2 : ¬ endThree (opsF t l).1 1 < 0 := by omega
  have n3 : ¬ endThree (opsF t l).1 1 + ((3 : Nat) : Int) * (opsF t l).2.length < 0 := by omega
  obtain ⟨c, m, s, a, g⟩ := t
  rw [laws_FnExactOpsDo_eq, e1]
  simp only [Option.bind_some, decide_eq_true_eq]
  by_cases h1 : r1 < 0
  · rw [if_pos h1]
  · rw [if_neg h1]
    obtain ⟨r2, e2, p2, q2⟩ := laws_szOpS_ev (k := k) (by omega) l r1 (by omega) (by omega) q1 b3
    rw [e2]
    simp only [Option.bind_some]
    by_cases h2 : r2 < 0
    · rw [if_pos h2]
    · rw [if_neg h2, e3, e4]
      simp only [Option.bind_some]
      rw [e5, e6]
      simp only [Option.bind_some]
      rw [e7]
      simp only [Option.bind_some, Bool.not_true, Bool.false_eq_true, if_false]
      rw [e8]
      simp only [Option.bind_some, Bool.not_true, Bool.false_eq_true, if_false]
      rw [e9]
      simp only [Option.bind_some, Bool.not_true, Bool.false_eq_true, if_false]
      rw [e10]
      simp only [Option.bind_some, Bool.not_true, Bool.false_eq_true, if_false]
      rw [e11]
      simp only [Option.bind_some]
      rw [e12]
      simp only [Option.bind_some]
      rw [if_neg n1, e13]
      simp only [Option.bind_some]
      rw [e14]
      simp only [Option.bind_some]
      rw [e15]
      simp only [Option.bind_some]
      rw [if_neg n2, e16]
      simp only [Option.bind_some]
      rw [if_neg n3]
      simp (disch := (first | assumption | omega)) only [if_pos, if_neg, if_t, if_f, not_true_eq_false, not_false_eq_true, Bool.false_eq_true, Bool.true_eq_false, eq_self, decide_true, decide_false, Bool.not_true, Bool.not_false, decide_eq_true_eq, Option.bind_some, Bool.not_eq_true', decide_eq_false_iff_not, n2, n3]
theorem plOpsDo (x : Ty.D ((.st (.pair (.int .i64) (.pair (.int .i64) (.pair (.slice 187 (.st (.pair .str (.pair .str (.int .i64))))) (.pair (.slice 187 (.st (.pair .str (.pair .str (.int .i64))))) (.slice 3 (.int .i64))))))))) (y : Ty.D ((.slice 125 (.st (.pair (.int .i64) (.pair .str .str)))))) (hx : InT _ x) (hy : InT _ y) (hb : bulkT _ x + bulkT _ y ≤ 1048576) : ∃ k, evF cfg0 k 6 (x, y) = some true := by
  obtain ⟨z, hz⟩ : ∃ z, 4294967396 ≤ z := ⟨_, Nat.le_refl _⟩
  refine ⟨z + 1, ?_⟩
  obtain ⟨c, m, s, a, g⟩ := x
  have hb' : 0 + (0 + (sumB (fun x : Itm => x.1.size + (x.2.1.size + 0)) s + (sumB (fun x : Itm => x.1.size + (x.2.1.size + 0)) a + sumB (fun x : Int => 0) g))) + sumB (fun x : Opp => 0 + (x.2.1.size + x.2.2.size)) y ≤ 1048576 := hb
  have b1 := sumB_le (fun x : Itm => x.1.size + (x.2.1.size + 0)) s
  have b2 := sumB_le (fun x : Itm => x.1.size + (x.2.1.size + 0)) a
  have b3 := sumB_le (fun x : Int => 0) g
  have b4 := sumB_le (fun x : Opp => 0 + (x.2.1.size + x.2.2.size)) y
  have h : asO Bool (evF cfg0 (z + 1) 6 (((c, m, s, a, g) : Thr), (y : List Opp))) = some true := by
    refine opsdo_law hz (c, m, s, a, g) y ⟨?_, ?_, ?_⟩ ?_ ?_ ?_ ?_
    · exact Nat.le_trans b1.1 (by omega)
    · exact Nat.le_trans b2.1 (by omega)
    · exact Nat.le_trans b3.1 (by omega)
    · exact Nat.le_trans b4.1 (by omega)
    · intro x hx; have := b1.2 x hx; omega
    · intro x hx; have := b2.2 x hx; omega
    · intro x hx; have := b4.2 x hx; omega
  exact asO_true h
end Go.Proofs.Ytgnnljpdcafdkaa.Ev

/- From a call's contract to the law's own statement: arguments as data. -/
namespace Go.Proofs.Ytgnnljpdcafdkaa.Ev
open Go
open Go.WideShapes Go.RowKit

def noFr : Frn := fun _ _ _ _ => False

theorem bulk_le {H : Type} {l : List (DataW H)} (hk : Rows.uptoSmall H l = true) : Rows.uptoBulkAll l ≤ 1048576 := of_decide_eq_true hk

section
variable {H : Type} {enc : TypeId × Value → H} {P : Program} {tt : TT} {W : World}

theorem arg_rd (ok : TTok P tt) (hc : ∀ T t, tt.shape T = some t → chkT P tt T t = true) {T : TypeId} {t : Ty} (hs : tt.shape T = some t) (hp' : (tt.shape T).map plainT = some true) {base : Nat} {v : Value} {d : DataW H} {ps : List MemPlace} (hval : Value.okWide P W .any base T v) (hd : DataW.Trod enc P W 0 (fun _ => true) true T v d ps) :
    ∃ x : t.D, (∃ cs, ValC t v cs ∧ RdC noFr (okB W []) W t x cs) ∧ InT t x ∧ bulkT t x + 1 ≤ Rows.uptoBulk d := by
  have hp : plainT t = true := by rw [hs] at hp'; simpa using hp'
  obtain ⟨fuel, hf⟩ := hd
  obtain ⟨x, h1, h2, h3⟩ := trod_rd (Fr := noFr) ok hc fuel hs hp hf
  refine ⟨x, ⟨v.cells.toList, ?_, h1.mono (fun b hb => ⟨hb, by simp⟩) fun _ _ => rfl⟩, h2, h3⟩
  have hck := hc T t hs
  unfold ValC
  rcases chk_no hck with ⟨k, rfl⟩ | rfl | rfl | ⟨e, t', rfl⟩ | ⟨t', rfl⟩
  · obtain ⟨n, rfl⟩ := okWide_int (chk_int hck) hval
    rfl
  · obtain ⟨n, rfl⟩ := okWide_bool (chk_bool hck) hval
    rfl
  · obtain ⟨n, rfl⟩ := okWide_string (chk_str hck) hval
    rfl
  · obtain ⟨a, l, c, rfl⟩ := okWide_slice (chk_slice hck).1 hval
    rfl
  · obtain ⟨fs, hu, _⟩ := chk_st hck
    simp only [Value.okWide, hu] at hval
    obtain ⟨cs, rfl, _⟩ := hval
    simp [Ty.isAgg, Value.cells]

theorem keeps_below {w w' : World} (h : Keeps (· ∈ ([] : List Nat)) w w') : Below w.heap.size w w' := ⟨h.os, h.tape, h.output, h.size, fun k hk => h.block k hk (by simp)⟩
theorem noFr_at (ok : Nat → Prop) (w : World) : FrAt noFr ok w := fun _ _ _ _ h => h.elim

theorem ret_true {w' : World} {vs : List Value} {r : List Nat} (h : ResV noFr w' [.bool] true vs r) : retOf vs = .bool true := by
  obtain ⟨u, cs, rfl, h1, h2⟩ := h
  obtain ⟨rfl, _⟩ := h2
  have : [Value.bool true] = [u] := h1
  simp at this
  rw [← this]; rfl

theorem walk1 {n : FuncId} {a : Ty} {x : a.D} (h : CallOk P ⟨[.val a], [.bool]⟩ n x true) {v0 : Value} (h0 : ∃ cs, ValC a v0 cs ∧ RdC noFr (okB W []) W a x cs) :
    Calls P n #[v0] W fun e W' => e = .returned (.bool true) ∧ Below W.heap.size W W' := by
  obtain ⟨cs, k1, k2⟩ := h0
  refine (h.2 W noFr [v0] [] [] (noFr_at _ _) ⟨v0, rfl, rfl, rfl, cs, k1, k2⟩ List.nodup_nil).mono ?_
  rintro e w' ⟨vs, r1, r2, rfl, hk, hres, _⟩
  exact ⟨by rw [ret_true hres], keeps_below hk⟩
theorem walk2 {n : FuncId} {a b : Ty} {x : a.D} {y : b.D} (h : CallOk P ⟨[.val a, .val b], [.bool]⟩ n (x, y) true) {v0 v1 : Value} (h0 : ∃ cs, ValC a v0 cs ∧ RdC noFr (okB W []) W a x cs) (h1 : ∃ cs, ValC b v1 cs ∧ RdC noFr (okB W []) W b y cs) :
    Calls P n #[v0, v1] W fun e W' => e = .returned (.bool true) ∧ Below W.heap.size W W' := by
  obtain ⟨cs, k1, k2⟩ := h0
  obtain ⟨cs', k3, k4⟩ := h1
  refine (h.2 W noFr [v0, v1] [] [] (noFr_at _ _) ⟨v0, [v1], [], [], [], [], rfl, rfl, rfl, ⟨rfl, rfl, cs, k1, k2⟩, v1, rfl, rfl, rfl, cs', k3, k4⟩ List.nodup_nil).mono ?_
  rintro e w' ⟨vs, r1, r2, rfl, hk, hres, _⟩
  exact ⟨by rw [ret_true hres], keeps_below hk⟩
theorem walk3 {n : FuncId} {a b c : Ty} {x : a.D} {y : b.D} {z : c.D} (h : CallOk P ⟨[.val a, .val b, .val c], [.bool]⟩ n (x, y, z) true) {v0 v1 v2 : Value} (h0 : ∃ cs, ValC a v0 cs ∧ RdC noFr (okB W []) W a x cs) (h1 : ∃ cs, ValC b v1 cs ∧ RdC noFr (okB W []) W b y cs) (h2 : ∃ cs, ValC c v2 cs ∧ RdC noFr (okB W []) W c z cs) :
    Calls P n #[v0, v1, v2] W fun e W' => e = .returned (.bool true) ∧ Below W.heap.size W W' := by
  obtain ⟨cs, k1, k2⟩ := h0
  obtain ⟨cs', k3, k4⟩ := h1
  obtain ⟨cs2, k5, k6⟩ := h2
  refine (h.2 W noFr [v0, v1, v2] [] [] (noFr_at _ _) ⟨v0, [v1, v2], [], [], [], [], rfl, rfl, rfl, ⟨rfl, rfl, cs, k1, k2⟩, v1, [v2], [], [], [], [], rfl, rfl, rfl, ⟨rfl, rfl, cs', k3, k4⟩, v2, rfl, rfl, rfl, cs2, k5, k6⟩ List.nodup_nil).mono ?_
  rintro e w' ⟨vs, r1, r2, rfl, hk, hres, _⟩
  exact ⟨by rw [ret_true hres], keeps_below hk⟩
end
end Go.Proofs.Ytgnnljpdcafdkaa.Ev
