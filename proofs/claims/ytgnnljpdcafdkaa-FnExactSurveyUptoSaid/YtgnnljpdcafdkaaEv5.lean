/- A part of a proof: an evaluator of the program's functions over plain values, and what it shows. -/
import Derived.Test.YtgnnljpdcafdkaaRows
import Derived.Test.YtgnnljpdcafdkaaJCfg2
import Derived.Carry
import Derived.DataReads
import Derived.ChangeShapes
import Derived.Test.YtgnnljpdcafdkaaJEq1
set_option linter.unusedVariables false
set_option linter.unusedSimpArgs false
set_option linter.unusedSectionVars false
/- A reading of data, as a typed value. -/
namespace Go.Proofs.Ytgnnljpdcafdkaa.Ev
open Go

/-- shapes that can be read as data -/
def plainT : Ty → Bool
  | .int _ => true
  | .bool => true
  | .str => true
  | .unit => true
  | .pair a b => plainT a && plainT b
  | .st t => plainT t
  | .slice _ t => plainT t && decide (0 < t.sz)
  | _ => false

/-- whole numbers are in range -/
def InT : (t : Ty) → t.D → Prop
  | .int k, n => (Lit.int k n).wf = true
  | .pair a b, x => InT a x.1 ∧ InT b x.2
  | .st t, x => InT t x
  | .slice _ t, xs => ∀ x ∈ (xs : List t.D), InT t x
  | _, _ => True

def sumB {α : Type} (f : α → Nat) : List α → Nat
  | [] => 0
  | x :: r => f x + 1 + sumB f r
/-- how much is held: letters, and elements -/
def bulkT : (t : Ty) → t.D → Nat
  | .str, s => s.size
  | .pair a b, x => bulkT a x.1 + bulkT b x.2
  | .st t, x => bulkT t x
  | .slice _ t, xs => sumB (bulkT t) (xs : List t.D)
  | _, _ => 0

theorem mapM_some {α β : Type} {g : α → Option β} : ∀ {l : List α} {r : List β}, l.mapM g = some r → r.length = l.length ∧ ∀ (i : Nat) a, l[i]? = some a → ∃ b, r[i]? = some b ∧ g a = some b
  | [], r, h => by simp at h; subst h; exact ⟨rfl, fun i a h => by simp at h⟩
  | x :: l, r, h => by
    rw [List.mapM_cons] at h
    simp only [Option.bind_eq_bind, Option.bind_eq_some_iff, Option.pure_def, Option.some.injEq] at h
    obtain ⟨b, h1, s, h2, rfl⟩ := h
    obtain ⟨k1, k2⟩ := mapM_some h2
    refine ⟨by simp [k1], fun i a hi => ?_⟩
    cases i with
    | zero => simp at hi; subst hi; exact ⟨b, rfl, h1⟩
    | succ i => simpa using k2 i a (by simpa using hi)

theorem rows_of {α β : Type} : ∀ (l : List β) (R : Nat → α → β → Prop), (∀ (i : Nat) b, l[i]? = some b → ∃ x, R i x b) → ∃ xs : List α, xs.length = l.length ∧ ∀ (i : Nat) x b, xs[i]? = some x → l[i]? = some b → R i x b
  | [], R, _ => ⟨[], rfl, fun i x b h => by simp at h⟩
  | b :: l, R, h => by
    obtain ⟨x, hx⟩ := h 0 b rfl
    obtain ⟨xs, h1, h2⟩ := rows_of l (fun i => R (i + 1)) fun i b' hb => h (i + 1) b' (by simpa using hb)
    refine ⟨x :: xs, by simp [h1], fun i y c hy hc => ?_⟩
    cases i with
    | zero => simp at hy hc; subst hy hc; exact hx
    | succ i => exact h2 i y c (by simpa using hy) (by simpa using hc)

theorem sum_rows {H : Type} {α : Type} {f : α → Nat} : ∀ {xs : List α} {ds : List (DataW H)}, xs.length = ds.length → (∀ (i : Nat) x d, xs[i]? = some x → ds[i]? = some d → f x + 1 ≤ Rows.uptoBulk d) → sumB f xs ≤ Rows.uptoBulkAll ds
  | [], [], _, _ => Nat.zero_le _
  | x :: xs, d :: ds, hl, h => by
    have h1 := h 0 x d rfl rfl
    have h2 := sum_rows (xs := xs) (ds := ds) (by simpa using hl) fun i x d hx hd => h (i + 1) x d (by simpa using hx) (by simpa using hd)
    simp only [sumB, Rows.uptoBulkAll]
    omega
  | [], _ :: _, hl, _ => by simp at hl
  | _ :: _, [], hl, _ => by simp at hl

section
variable {H : Type} {enc : TypeId × Value → H} {P : Program} {tt : TT} {w : World} {Fr : Frn}

theorem cellsOf_of (ok : TTok P tt) {T : TypeId} {t : Ty} (h : tt.shape T = some t) : P.cellsOf T = t.sz := by
  obtain ⟨i, z, h1, h2, _⟩ := ok.shape T t h
  simp [Program.cellsOf, h1, h2]

def Reads1 (H : Type) (Fr : Frn) (w : World) (t : Ty) (cs : List Value) (d : DataW H) : Prop :=
  ∃ x : t.D, RdC Fr (fun b => b < w.heap.size) w t x cs ∧ InT t x ∧ bulkT t x + 1 ≤ Rows.uptoBulk d

theorem take_add' {α : Type} (l : List α) (m n : Nat) : l.take (m + n) = l.take m ++ (l.drop m).take n := List.take_add ..

theorem trod_rd (ok : TTok P tt) (hc : ∀ T t, tt.shape T = some t → chkT P tt T t = true) : ∀ (fuel : Nat) {T : TypeId} {t : Ty} {cs : List Value} {d : DataW H} {ps : List MemPlace}, tt.shape T = some t → plainT t = true → DataW.trod enc P w 0 (fun _ => true) true fuel T cs = some (d, ps) → Reads1 H Fr w t cs d
  | 0, _, _, _, _, _, _, _, h => by simp [DataW.trod] at h
  | fuel + 1, T, t, cs, d, ps, hs, hp, h => by
    have hck := hc T t hs
    rcases chk_no hck with ⟨k, rfl⟩ | rfl | rfl | ⟨e, t', rfl⟩ | ⟨t', rfl⟩
    · simp only [DataW.trod, chk_int hck] at h
      split at h <;> try (simp_all; done)
      rename_i k' k2 n e1
      simp at e1; subst e1
      split at h
      · rename_i hw
        simp at h
        obtain ⟨rfl, rfl⟩ := h
        obtain ⟨rfl, hw⟩ := hw
        exact ⟨n, rfl, hw, by simp [bulkT, Rows.uptoBulk]⟩
      · cases h
    · simp only [DataW.trod, chk_bool hck] at h
      split at h <;> try (simp_all; done)
      rename_i b e1
      simp at h
      obtain ⟨rfl, rfl⟩ := h
      exact ⟨b, rfl, trivial, by simp [bulkT, Rows.uptoBulk]⟩
    · simp only [DataW.trod, chk_str hck] at h
      split at h <;> try (simp_all; done)
      rename_i s e1
      split at h
      · simp at h
        obtain ⟨rfl, rfl⟩ := h
        refine ⟨s, rfl, trivial, ?_⟩
        simp only [bulkT, Rows.uptoBulk, Array.length_toList]
        exact Nat.le_refl _
      · cases h
    · obtain ⟨hu, hel, hsh⟩ := chk_slice hck
      simp only [plainT, Bool.and_eq_true, decide_eq_true_eq] at hp
      have hce := cellsOf_of ok hsh
      simp only [DataW.trod, hu] at h
      split at h <;> try (simp_all; done)
      · simp at h
        obtain ⟨rfl, rfl⟩ := h
        exact ⟨[], ⟨_, rfl, none, 0, rfl, Nat.le_refl _, by omega, fun h => by simp at h⟩, fun x hx => by simp at hx, by simp [bulkT, sumB, Rows.uptoBulk]⟩
      · rename_i e2 a len cap e1
        simp at e1; subst e1
        split at h
        · rename_i hcond
          simp only [Option.bind_eq_some_iff, Option.map_eq_some_iff] at h
          obtain ⟨elems, h1, rest, h2, h3⟩ := h
          obtain ⟨k1, k2⟩ := mapM_some h1
          have hlen : elems.length = len := by simpa using k1
          simp at h3
          obtain ⟨rfl, _⟩ := h3
          obtain ⟨xs, x1, x2⟩ := rows_of (α := t'.D) elems (fun i x b => (∃ cs : List Value, cs.length = t'.sz ∧ RdC Fr (fun b => b < w.heap.size) w t' x cs ∧ (∀ (j : Nat) v, cs[j]? = some v → w.cell? (a.add (i * t'.sz + j)) = some v)) ∧ InT t' x ∧ bulkT t' x + 1 ≤ Rows.uptoBulk b.1) (by
            intro i b hb
            have hi : i < len := by have := (List.getElem?_eq_some_iff.1 hb).1; omega
            obtain ⟨b', k3, k4⟩ := k2 i i (by simp [hi])
            rw [hb] at k3
            simp at k3; subst k3
            simp only [Option.bind_eq_some_iff] at k4
            obtain ⟨cs, k5, k6⟩ := k4
            rw [hce] at k5
            obtain ⟨x, r1, r2, r3⟩ := trod_rd ok hc fuel hsh hp.1 k6
            obtain ⟨_, m1, m2⟩ := World.cells?_some k5
            refine ⟨x, ⟨cs, m1, r1, fun j v hv => ?_⟩, r2, r3⟩
            have hj : j < t'.sz := by have := (List.getElem?_eq_some_iff.1 hv).1; omega
            have := m2 j hj
            rw [add_add] at this
            rw [this]; exact hv)
          refine ⟨xs, ⟨_, rfl, some a, cap, by rw [x1, hlen], by omega, by have := hcond.2.2; unfold maxLen at this; omega, fun h0 => ⟨a, rfl, ?_, fun j x hj => ?_⟩⟩, fun x hx => ?_, ?_⟩
          · obtain ⟨x, hx⟩ : ∃ x, xs[0]? = some x := ⟨xs[0], List.getElem?_eq_getElem h0⟩
            have hl0 : 0 < elems.length := by omega
            obtain ⟨⟨cs, c1, c2, c3⟩, _⟩ := x2 0 x _ hx (List.getElem?_eq_getElem hl0)
            have hc0 : 0 < cs.length := by rw [c1]; exact hp.2
            have := c3 0 _ (List.getElem?_eq_getElem hc0)
            simp only [Nat.zero_mul, Nat.add_zero] at this
            unfold World.cell? at this
            rw [add_block] at this
            cases hg : w.heap[a.block]? with
            | none => rw [hg] at this; simp at this
            | some o => exact (Array.getElem?_eq_some_iff.1 hg).1
          · have hj' : j < elems.length := by have := (List.getElem?_eq_some_iff.1 hj).1; omega
            obtain ⟨⟨cs, c1, c2, c3⟩, _⟩ := x2 j x _ hj (List.getElem?_eq_getElem hj')
            exact ⟨cs, c1, c2, c3⟩
          · obtain ⟨j, hj, ej⟩ := List.getElem_of_mem hx
            have hjx : xs[j]? = some x := by rw [List.getElem?_eq_getElem hj, ej]
            exact (x2 j x _ hjx (List.getElem?_eq_getElem (by omega))).2.1
          · simp only [bulkT, Rows.uptoBulk]
            have := sum_rows (H := H) (f := bulkT t') (xs := xs) (ds := elems.map (·.1)) (by simp [x1]) (fun i x d hx hd => by
              rw [List.getElem?_map] at hd
              cases hb : elems[i]? with
              | none => rw [hb] at hd; simp at hd
              | some b => rw [hb] at hd; simp at hd; subst hd; exact (x2 i x b hx hb).2.2)
            omega
        · cases h
    · obtain ⟨fs, hu, _, hf⟩ := chk_st hck
      have hce := cellsOf_of ok hs
      simp only [plainT] at hp
      simp only [DataW.trod, hu] at h
      split at h
      · rename_i hlen
        rw [hce] at hlen
        simp only [Option.map_eq_some_iff] at h
        obtain ⟨xs, h1, h2⟩ := h
        simp at h2
        obtain ⟨rfl, _⟩ := h2
        -- field by field
        have key : ∀ (t : Ty) (fs : List Field) (off : Nat) (xs : List (DataW H × List MemPlace)), fldsB tt t fs off = true → plainT t = true → (fs.mapM fun f => DataW.trod enc P w 0 (fun _ => true) true fuel f.type ((cs.drop f.offset).take (P.cellsOf f.type))) = some xs →
            ∃ x : t.D, RdC Fr (fun b => b < w.heap.size) w t x ((cs.drop off).take t.sz) ∧ InT t x ∧ bulkT t x ≤ Rows.uptoBulkAll (xs.map (·.1)) := by
          intro t fs
          induction fs generalizing t with
          | nil =>
            intro off xs hf hp hm
            cases t <;> simp [fldsB] at hf
            exact ⟨(), by simp [Ty.sz]; rfl, trivial, Nat.zero_le _⟩
          | cons f r ih =>
            intro off xs hf hp hm
            rw [List.mapM_cons] at hm
            simp only [Option.bind_eq_bind, Option.bind_eq_some_iff, Option.pure_def, Option.some.injEq] at hm
            obtain ⟨y, hm1, ys, hm2, rfl⟩ := hm
            have one : ∀ (t : Ty), f.offset = off → tt.shape f.type = some t → plainT t = true → ∃ x : t.D, RdC Fr (fun b => b < w.heap.size) w t x ((cs.drop off).take t.sz) ∧ InT t x ∧ bulkT t x + 1 ≤ Rows.uptoBulk y.1 := by
              intro t ho hst hpt
              rw [cellsOf_of ok hst, ho] at hm1
              exact trod_rd ok hc fuel (d := y.1) (ps := y.2) hst hpt hm1
            cases r with
            | nil =>
              have h' : f.offset = off ∧ tt.shape f.type = some t := by cases t <;> simpa [fldsB] using hf
              obtain ⟨x, r1, r2, r3⟩ := one t h'.1 h'.2 hp
              refine ⟨x, r1, r2, ?_⟩
              simp only [List.map_cons, Rows.uptoBulkAll]
              omega
            | cons g r =>
              cases t with
              | pair a b =>
                simp only [fldsB, Bool.and_eq_true, decide_eq_true_eq] at hf
                simp only [plainT, Bool.and_eq_true] at hp
                obtain ⟨x, r1, r2, r3⟩ := one a hf.1 hf.2.1 hp.1
                obtain ⟨y2, q1, q2, q3⟩ := ih b (off + a.sz) ys hf.2.2 hp.2 hm2
                refine ⟨(x, y2), ⟨_, _, ?_, r1, q1⟩, ⟨r2, q2⟩, ?_⟩
                · simp only [Ty.sz]
                  rw [take_add', List.drop_drop]
                · simp only [bulkT, List.map_cons, Rows.uptoBulkAll]
                  omega
              | _ => simp [fldsB] at hf
        obtain ⟨x, r1, r2, r3⟩ := key t' fs.toList 0 xs hf hp h1
        refine ⟨x, ?_, r2, ?_⟩
        · have e0 : (cs.drop 0).take t'.sz = cs := by
            simp only [List.drop_zero]
            exact List.take_of_length_le (by rw [hlen]; exact Nat.le_refl _)
          rw [e0] at r1
          exact r1
        · simp only [bulkT, Rows.uptoBulk]; omega
      · cases h
termination_by fuel => fuel
end
end Go.Proofs.Ytgnnljpdcafdkaa.Ev

/- Common facts for the plain laws. -/
namespace Go.Proofs.Ytgnnljpdcafdkaa.Ev
open Go
set_option linter.unusedVariables false

theorem lim_3 : LIM tt 3 = 17592186044416 := by kernel_rfl
theorem lim_4 : LIM tt 4 = 140737488355328 := by kernel_rfl
theorem lim_9 : LIM tt 9 = 8796093022208 := by kernel_rfl
theorem lim_78 : LIM tt 78 = 3518437208883 := by kernel_rfl
theorem lim_121 : LIM tt 121 = 3518437208883 := by kernel_rfl
theorem lim_128 : LIM tt 128 = 3518437208883 := by kernel_rfl
theorem lim_137 : LIM tt 137 = 3518437208883 := by kernel_rfl

theorem wrp {x : Int} (h : -9223372036854775808 ≤ x) (h' : x ≤ 9223372036854775807) : IntKind.wrap .i64 x = x := by
  simp [IntKind.wrap, IntKind.signed, IntKind.bits]
  split <;> omega

theorem baToList_inj {a b : ByteArray} (h : a.toList = b.toList) : a = b := by
  have h1 : a.data.toList = b.data.toList := by simpa [ByteArray.toList_eq] using h
  cases a; cases b; simp at h1; simp [h1]

theorem seq_dec (a b : ByteArray) : seq a b = decide (a = b) := by
  unfold seq
  by_cases h : a = b
  · subst h; simp
  · have : a.toList ≠ b.toList := fun e => h (baToList_inj e)
    simp [h, this]

theorem if_t {α : Type} (a b : α) : (if True then a else b) = a := if_pos trivial
theorem if_f {α : Type} (a b : α) : (if False then a else b) = b := if_neg id
theorem seq_iff {a b : ByteArray} : seq a b = true ↔ a = b := by rw [seq_dec]; simp

theorem tn1 {i : Int} (h : 0 ≤ i) : (i + 1).toNat = i.toNat + 1 := by omega

theorem dropC {α : Type} {l : List α} {d : α} {i : Int} (h0 : 0 ≤ i) (h : i < (l.length : Int)) : l.drop i.toNat = l.getD i.toNat d :: l.drop (i + 1).toNat := by
  have hl : i.toNat < l.length := by omega
  rw [tn1 h0, List.drop_eq_getElem_cons hl]
  simp [List.getD, hl]

theorem dropN {α : Type} {l : List α} {i : Int} (h0 : 0 ≤ i) (h : ¬ i < (l.length : Int)) : l.drop i.toNat = [] := by
  have hl : l.length ≤ i.toNat := by omega
  exact List.drop_eq_nil_of_le hl

theorem exS {k b : Nat} (h : b + 1 ≤ k) : ∃ j, k = j + 1 ∧ b ≤ j := ⟨k - 1, by omega, by omega⟩

theorem set_drop {α : Type} (l : List α) (i : Nat) (v : α) (h : i < l.length) : l.set i v = l.take i ++ v :: l.drop (i + 1) := by
  rw [List.set_eq_take_append_cons_drop]; simp [h]

theorem getD_lt {α : Type} {l : List α} {d : α} {i : Nat} (h : i < l.length) : l.getD i d ∈ l := by
  simp [List.getD, h]
/-- (a kernel that compares 'asO' with what it stands for by itself runs away) -/
theorem asO_true {o : Option Bool} (h : asO Bool o = some true) : o = some true := h
theorem sumB_le {α : Type} (f : α → Nat) : ∀ (l : List α), l.length ≤ sumB f l ∧ ∀ x ∈ l, f x ≤ sumB f l
  | [] => ⟨Nat.le_refl _, fun x h => by cases h⟩
  | x :: r => by
    have := sumB_le f r
    refine ⟨by simp only [List.length_cons, sumB]; omega, fun y hy => ?_⟩
    rcases List.mem_cons.1 hy with rfl | hy
    · simp only [sumB]; omega
    · have := this.2 y hy; simp only [sumB]; omega
end Go.Proofs.Ytgnnljpdcafdkaa.Ev

/- What the cache's small functions compute: reference and program alike. -/
namespace Go.Proofs.Ytgnnljpdcafdkaa.Ev
open Go
set_option linter.unusedVariables false

abbrev Itm := ByteArray × ByteArray × Int
abbrev Thr := Int × Int × List Itm × List Itm × List Int

theorem spec_l01In_ev {k : Nat} (hk : 4294967297 ≤ k) (a b c : Int) : asO Bool (evF cfg0 k 130 (a, b, c)) = some (decide (b ≤ a) && decide (a ≤ c)) := by
  obtain ⟨k, rfl, hk⟩ := exS hk
  rw [spec_l01In_eq]
  by_cases h : b ≤ a <;> simp [h]
theorem impl_within_ev {k : Nat} (hk : 4294967297 ≤ k) (a b c : Int) : asO Bool (evF cfg0 k 104 (a, b, c)) = some (decide (b ≤ a) && decide (a ≤ c)) := by
  obtain ⟨k, rfl, hk⟩ := exS hk
  rw [impl_within_eq]
  by_cases h : b ≤ a <;> simp [h]
def numF (g : Int) : Bool := decide (0 ≤ g) && decide (g ≤ 4294967295)
theorem spec_l01Num_ev {k : Nat} (hk : 4294967297 ≤ k) (a : Int) : asO Bool (evF cfg0 k 134 a) = some (numF a) := by
  obtain ⟨k, rfl, hk⟩ := exS hk
  rw [spec_l01Num_eq, numF]
  by_cases h : 0 ≤ a <;> simp [h]
theorem impl_isNum_ev {k : Nat} (hk : 4294967298 ≤ k) (a : Int) : asO Bool (evF cfg0 k 139 a) = some (numF a) := by
  obtain ⟨k, rfl, hk⟩ := exS hk
  rw [impl_isNum_eq, impl_within_ev (by omega)]
  rfl

/-! ### texts without blanks -/
def plainF (s : ByteArray) : Nat → Int → Bool
  | 0, _ => true
  | n + 1, i => if bt s i = 32 then false else if bt s i = 10 then false else plainF s n (i + 1)
theorem spec_l10Clean_l0_ev {k : Nat} (s : ByteArray) (hs : s.size ≤ 2097152) : ∀ (m n : Nat) (i : Int), 0 ≤ i → i + n = s.size → n < m → spec_l10Clean_l0 k m s i = some (plainF s n i) := by
  intro m
  induction m with
  | zero => intro n i h0 h1 h2; omega
  | succ m ih =>
    intro n i h0 h1 h2
    rw [spec_l10Clean_l0_eq]
    cases n with
    | zero => simp (disch := (first | assumption | omega)) only [if_pos, if_neg, if_t, if_f, not_true_eq_false, not_false_eq_true, Bool.false_eq_true, Bool.true_eq_false, eq_self, decide_true, decide_false, Bool.not_true, Bool.not_false, decide_eq_true_eq, Option.bind_some, Bool.not_eq_true', decide_eq_false_iff_not, plainF]
    | succ n =>
      have h3 : i < (s.size : Int) := by omega
      by_cases h4 : bt s i = 32
      · simp (disch := (first | assumption | omega)) only [if_pos, if_neg, if_t, if_f, not_true_eq_false, not_false_eq_true, Bool.false_eq_true, Bool.true_eq_false, eq_self, decide_true, decide_false, Bool.not_true, Bool.not_false, decide_eq_true_eq, Option.bind_some, Bool.not_eq_true', decide_eq_false_iff_not, plainF, h4]
      · by_cases h5 : bt s i = 10
        · simp (disch := (first | assumption | omega)) only [if_pos, if_neg, if_t, if_f, not_true_eq_false, not_false_eq_true, Bool.false_eq_true, Bool.true_eq_false, eq_self, decide_true, decide_false, Bool.not_true, Bool.not_false, decide_eq_true_eq, Option.bind_some, Bool.not_eq_true', decide_eq_false_iff_not, plainF, h4, h5]
        · simp (disch := (first | assumption | omega)) only [if_pos, if_neg, if_t, if_f, not_true_eq_false, not_false_eq_true, Bool.false_eq_true, Bool.true_eq_false, eq_self, decide_true, decide_false, Bool.not_true, Bool.not_false, decide_eq_true_eq, Option.bind_some, Bool.not_eq_true', decide_eq_false_iff_not, plainF, h4, h5, wrp]
          exact ih n (i + 1) (by omega) (by omega) (by omega)
theorem impl_isPlain_l0_ev {k : Nat} (s : ByteArray) (hs : s.size ≤ 2097152) : ∀ (m n : Nat) (i : Int), 0 ≤ i → i + n = s.size → n < m → impl_isPlain_l0 k m s i = some (plainF s n i) := by
  intro m
  induction m with
  | zero => intro n i h0 h1 h2; omega
  | succ m ih =>
    intro n i h0 h1 h2
    rw [impl_isPlain_l0_eq]
    cases n with
    | zero => simp (disch := (first | assumption | omega)) only [if_pos, if_neg, if_t, if_f, not_true_eq_false, not_false_eq_true, Bool.false_eq_true, Bool.true_eq_false, eq_self, decide_true, decide_false, Bool.not_true, Bool.not_false, decide_eq_true_eq, Option.bind_some, Bool.not_eq_true', decide_eq_false_iff_not, plainF]
    | succ n =>
      have h3 : i < (s.size : Int) := by omega
      by_cases h4 : bt s i = 32
      · simp (disch := (first | assumption | omega)) only [if_pos, if_neg, if_t, if_f, not_true_eq_false, not_false_eq_true, Bool.false_eq_true, Bool.true_eq_false, eq_self, decide_true, decide_false, Bool.not_true, Bool.not_false, decide_eq_true_eq, Option.bind_some, Bool.not_eq_true', decide_eq_false_iff_not, plainF, h4]
      · by_cases h5 : bt s i = 10
        · simp (disch := (first | assumption | omega)) only [if_pos, if_neg, if_t, if_f, not_true_eq_false, not_false_eq_true, Bool.false_eq_true, Bool.true_eq_false, eq_self, decide_true, decide_false, Bool.not_true, Bool.not_false, decide_eq_true_eq, Option.bind_some, Bool.not_eq_true', decide_eq_false_iff_not, plainF, h4, h5]
        · simp (disch := (first | assumption | omega)) only [if_pos, if_neg, if_t, if_f, not_true_eq_false, not_false_eq_true, Bool.false_eq_true, Bool.true_eq_false, eq_self, decide_true, decide_false, Bool.not_true, Bool.not_false, decide_eq_true_eq, Option.bind_some, Bool.not_eq_true', decide_eq_false_iff_not, plainF, h4, h5, wrp]
          exact ih n (i + 1) (by omega) (by omega) (by omega)
def plain (s : ByteArray) : Bool := plainF s s.size 0
theorem spec_l10Clean_ev {k : Nat} (hk : 4294967297 ≤ k) (s : ByteArray) (hs : s.size ≤ 2097152) : asO Bool (evF cfg0 k 175 s) = some (plain s) := by
  obtain ⟨k, rfl, hk⟩ := exS hk
  rw [spec_l10Clean_eq]
  exact spec_l10Clean_l0_ev s hs k s.size 0 (by omega) (by omega) (by omega)
theorem impl_isPlain_ev {k : Nat} (hk : 4294967297 ≤ k) (s : ByteArray) (hs : s.size ≤ 2097152) : asO Bool (evF cfg0 k 182 s) = some (plain s) := by
  obtain ⟨k, rfl, hk⟩ := exS hk
  rw [impl_isPlain_eq]
  exact impl_isPlain_l0_ev s hs k s.size 0 (by omega) (by omega) (by omega)

/-! ### items -/
def IOk (x : Itm) : Bool := decide (1 ≤ x.1.size) && decide (x.1.size ≤ 20) && decide (x.2.1.size ≤ 40) && plain x.1 && plain x.2.1 && decide (0 ≤ x.2.2) && decide (x.2.2 ≤ 3)
theorem spec_ItemOk_ev {k : Nat} (hk : 4294967298 ≤ k) (x : Itm) : asO Bool (evF cfg0 k 132 x) = some (IOk x) := by
  obtain ⟨k, rfl, hk⟩ := exS hk
  obtain ⟨a, b, c⟩ := x
  rw [spec_ItemOk_eq]
  unfold IOk
  by_cases h1 : (1 : Int) ≤ a.size
  · by_cases h2 : (a.size : Int) ≤ 20
    · rw [spec_l10Clean_ev (by omega) a (by omega)]
      by_cases h3 : plain a = true
      · by_cases h4 : (b.size : Int) ≤ 40
        · rw [spec_l10Clean_ev (by omega) b (by omega), spec_l01In_ev (by omega)]
          have e1 : 1 ≤ a.size := by omega
          have e2 : a.size ≤ 20 := by omega
          have e4 : b.size ≤ 40 := by omega
          by_cases h5 : plain b = true
          · simp [h1, h2, h3, h4, h5, e1, e2, e4]
          · simp [h1, h2, h3, h4, h5, e1, e2, e4]
        · have e4 : ¬ b.size ≤ 40 := by omega
          simp [h1, h2, h3, h4, e4]
      · simp [h1, h2, h3]
    · have e2 : ¬ a.size ≤ 20 := by omega
      simp [h1, h2, e2]
  · have e1 : ¬ 1 ≤ a.size := by omega
    simp [h1, e1]
theorem impl_ItemOk_ev {k : Nat} (hk : 4294967298 ≤ k) (x : Itm) : asO Bool (evF cfg0 k 150 x) = some (IOk x) := by
  obtain ⟨k, rfl, hk⟩ := exS hk
  obtain ⟨a, b, c⟩ := x
  rw [impl_ItemOk_eq, impl_within_ev (by omega), impl_within_ev (by omega)]
  unfold IOk
  by_cases h1 : (1 : Int) ≤ a.size
  · by_cases h2 : (a.size : Int) ≤ 20
    · rw [impl_isPlain_ev (by omega) a (by omega)]
      have e1 : 1 ≤ a.size := by omega
      have e2 : a.size ≤ 20 := by omega
      by_cases h4 : (b.size : Int) ≤ 40
      · rw [impl_isPlain_ev (by omega) b (by omega)]
        have e4 : b.size ≤ 40 := by omega
        by_cases h3 : plain a = true <;> by_cases h5 : plain b = true <;>
          simp [h1, h2, h3, h4, h5, e1, e2, e4]
      · have e4 : ¬ b.size ≤ 40 := by omega
        simp [h1, h2, h4, e4]
    · have e2 : ¬ a.size ≤ 20 := by omega
      simp [h1, h2, e2]
  · have e1 : ¬ 1 ≤ a.size := by omega
    simp [h1, e1]

/-! ### the place of a key -/
def atF (key : ByteArray) : List Itm → Int → Int
  | [], _ => -1
  | x :: r, i => if x.1 = key then i else atF key r (i + 1)
theorem spec_l10At_l0_ev {k : Nat} (l : List Itm) (key : ByteArray) (hl : l.length ≤ 4194304) : ∀ (m : Nat) (i : Int), 0 ≤ i → i ≤ l.length → l.length < i + m → spec_l10At_l0 k m l key i = some (atF key (l.drop i.toNat) i) := by
  intro m
  induction m with
  | zero => intro i h0 h1 h2; omega
  | succ m ih =>
    intro i h0 h1 h2
    rw [spec_l10At_l0_eq]
    by_cases h : i < (l.length : Int)
    · rw [dropC (d := Ty.dflt tItem) h0 h]
      by_cases h4 : (l.getD i.toNat (Ty.dflt tItem)).1 = key
      · simp (disch := (first | assumption | omega)) only [if_pos, if_neg, if_t, if_f, not_true_eq_false, not_false_eq_true, Bool.false_eq_true, Bool.true_eq_false, eq_self, decide_true, decide_false, Bool.not_true, Bool.not_false, decide_eq_true_eq, Option.bind_some, Bool.not_eq_true', decide_eq_false_iff_not, atF, h4, seq_iff]
      · simp (disch := (first | assumption | omega)) only [if_pos, if_neg, if_t, if_f, not_true_eq_false, not_false_eq_true, Bool.false_eq_true, Bool.true_eq_false, eq_self, decide_true, decide_false, Bool.not_true, Bool.not_false, decide_eq_true_eq, Option.bind_some, Bool.not_eq_true', decide_eq_false_iff_not, atF, h4, seq_iff, wrp]
        exact ih (i + 1) (by omega) (by omega) (by omega)
    · rw [dropN h0 h]
      simp (disch := (first | assumption | omega)) only [if_pos, if_neg, if_t, if_f, not_true_eq_false, not_false_eq_true, Bool.false_eq_true, Bool.true_eq_false, eq_self, decide_true, decide_false, Bool.not_true, Bool.not_false, decide_eq_true_eq, Option.bind_some, Bool.not_eq_true', decide_eq_false_iff_not, atF, h]
theorem spec_l10At_ev {k : Nat} (hk : 4294967297 ≤ k) (l : List Itm) (key : ByteArray) (hl : l.length ≤ 4194304) : asO Int (evF cfg0 k 133 (l, key)) = some (atF key l 0) := by
  obtain ⟨k, rfl, hk⟩ := exS hk
  rw [spec_l10At_eq]
  simpa using spec_l10At_l0_ev (k := k) l key hl k 0 (by omega) (by omega) (by omega)
theorem impl_itemAt_1_ev {k : Nat} (hk : 4294967297 ≤ k) (x : Itm) (key : ByteArray) : asO Bool (evF cfg0 k 208 (x, key)) = some (decide (x.1 = key)) := by
  obtain ⟨k, rfl, hk⟩ := exS hk
  obtain ⟨a, b, c⟩ := x
  rw [impl_itemAt_1_eq, seq_dec]
theorem slices_IndexFunc__impl_Item_impl_Item_impl_itemAt_1_l0_ev {k : Nat} (hk : 4294967297 ≤ k) (l : List Itm) (key : ByteArray) (hl : l.length ≤ 4194304) : ∀ (m : Nat) (i : Int), 0 ≤ i → i ≤ l.length → l.length < i + m → slices_IndexFunc__impl_Item_impl_Item_impl_itemAt_1_l0 k m l key i = some (atF key (l.drop i.toNat) i) := by
  intro m
  induction m with
  | zero => intro i h0 h1 h2; omega
  | succ m ih =>
    intro i h0 h1 h2
    rw [slices_IndexFunc__impl_Item_impl_Item_impl_itemAt_1_l0_eq]
    by_cases h : i < (l.length : Int)
    · rw [dropC (d := Ty.dflt tItem) h0 h, impl_itemAt_1_ev hk]
      by_cases h4 : (l.getD i.toNat (Ty.dflt tItem)).1 = key
      · simp (disch := (first | assumption | omega)) only [if_pos, if_neg, if_t, if_f, not_true_eq_false, not_false_eq_true, Bool.false_eq_true, Bool.true_eq_false, eq_self, decide_true, decide_false, Bool.not_true, Bool.not_false, decide_eq_true_eq, Option.bind_some, Bool.not_eq_true', decide_eq_false_iff_not, atF, h4]
      · simp (disch := (first | assumption | omega)) only [if_pos, if_neg, if_t, if_f, not_true_eq_false, not_false_eq_true, Bool.false_eq_true, Bool.true_eq_false, eq_self, decide_true, decide_false, Bool.not_true, Bool.not_false, decide_eq_true_eq, Option.bind_some, Bool.not_eq_true', decide_eq_false_iff_not, atF, h4, wrp]
        exact ih (i + 1) (by omega) (by omega) (by omega)
    · rw [dropN h0 h]
      simp (disch := (first | assumption | omega)) only [if_pos, if_neg, if_t, if_f, not_true_eq_false, not_false_eq_true, Bool.false_eq_true, Bool.true_eq_false, eq_self, decide_true, decide_false, Bool.not_true, Bool.not_false, decide_eq_true_eq, Option.bind_some, Bool.not_eq_true', decide_eq_false_iff_not, atF, h]
theorem slices_IndexFunc__impl_Item_impl_Item_impl_itemAt_1_ev {k : Nat} (hk : 4294967298 ≤ k) (l : List Itm) (key : ByteArray) (hl : l.length ≤ 4194304) : asO Int (evF cfg0 k 207 (l, 208, key)) = some (atF key l 0) := by
  obtain ⟨k, rfl, hk⟩ := exS hk
  rw [slices_IndexFunc__impl_Item_impl_Item_impl_itemAt_1_eq]
  simpa using slices_IndexFunc__impl_Item_impl_Item_impl_itemAt_1_l0_ev (k := k) (by omega) l key hl k 0 (by omega) (by omega) (by omega)
theorem impl_itemAt_ev {k : Nat} (hk : 4294967299 ≤ k) (l : List Itm) (key : ByteArray) (hl : l.length ≤ 4194304) : asO Int (evF cfg0 k 178 (l, key)) = some (atF key l 0) := by
  obtain ⟨k, rfl, hk⟩ := exS hk
  rw [impl_itemAt_eq, slices_IndexFunc__impl_Item_impl_Item_impl_itemAt_1_ev (by omega) l key hl]
  rfl
end Go.Proofs.Ytgnnljpdcafdkaa.Ev

/- Loops of the laws' helpers, in general; and the helpers of the cache. -/
namespace Go.Proofs.Ytgnnljpdcafdkaa.Ev
open Go
set_option linter.unusedVariables false

def mkL {α : Type} (mk : Int → α) (d : Int) : Int → Nat → List α
  | _, 0 => []
  | n, j + 1 => mk n :: mkL mk d (n + d) j
theorem mkL_len {α : Type} (mk : Int → α) (d : Int) : ∀ (j : Nat) (n : Int), (mkL mk d n j).length = j
  | 0, n => rfl
  | j + 1, n => by simp [mkL, mkL_len mk d j]
theorem take_set' {α : Type} (l : List α) (i : Nat) (v : α) (h : i < l.length) : (l.set i v).take (i + 1) = l.take i ++ [v] := by
  rw [List.take_add_one, List.take_set_of_le (Nat.le_refl i)]; simp [h]

theorem mark_gen {α : Type} {L : Nat → Int → Int → List α → Option (Int × List α)} {mk : Int → α} (d : Nat) (hd : d ≤ 100)
    (hend : ∀ m n i y, ¬ i < (y.length : Int) → L (m + 1) n i y = some (n, y))
    (hstep : ∀ m n i y, 0 ≤ i → i < (y.length : Int) → y.length ≤ 4194304 → 0 ≤ n → n ≤ 1099511627776 → L (m + 1) n i y = L m (n + d) (i + 1) (y.set i.toNat (mk n))) :
    ∀ (m : Nat) (n i : Int) (y : List α) (r : Nat), 0 ≤ i → i + r = y.length → y.length ≤ 4194304 → r < m → 0 ≤ n → n + 100 * r ≤ 1099511627776 → L m n i y = some (n + d * r, y.take i.toNat ++ mkL mk d n r) := by
  intro m
  induction m with
  | zero => intro n i y r h0 h1 h2 h3; omega
  | succ m ih =>
    intro n i y r h0 h1 h2 h3 h4 h5
    cases r with
    | zero =>
      rw [hend m n i y (by omega)]
      have : y.length ≤ i.toNat := by omega
      simp [mkL, List.take_of_length_le this]
    | succ r =>
      rw [hstep m n i y h0 (by omega) h2 h4 (by omega)]
      rw [ih (n + d) (i + 1) (y.set i.toNat (mk n)) r (by omega) (by rw [List.length_set]; omega) (by rw [List.length_set]; omega) (by omega) (by omega) (by omega)]
      rw [tn1 h0, take_set' _ _ _ (by omega), List.append_assoc]
      have e : n + (d : Int) + d * (r : Int) = n + d * ((r + 1 : Nat) : Int) := by rw [Int.natCast_succ, Int.mul_add, Int.mul_one]; omega
      rw [e]; rfl
theorem held_gen {α : Type} {H : Nat → Int → Int → Option Int} {mk : Int → α} {l : List α} {df : α} (d : Nat) (hd : d ≤ 100) (hl : l.length ≤ 4194304)
    (hend : ∀ m n i, ¬ i < (l.length : Int) → H (m + 1) n i = some n)
    (hstep : ∀ m n i, 0 ≤ i → i < (l.length : Int) → 0 ≤ n → n ≤ 1099511627776 → l.getD i.toNat df = mk n → H (m + 1) n i = H m (n + d) (i + 1)) :
    ∀ (m : Nat) (n i : Int) (r : Nat), 0 ≤ i → i + r = l.length → r < m → 0 ≤ n → n + 100 * r ≤ 1099511627776 → l.drop i.toNat = mkL mk d n r → H m n i = some (n + d * r) := by
  intro m
  induction m with
  | zero => intro n i r h0 h1 h2; omega
  | succ m ih =>
    intro n i r h0 h1 h2 h3 h4 h5
    cases r with
    | zero => rw [hend m n i (by omega)]; simp
    | succ r =>
      rw [dropC (d := df) h0 (by omega), mkL] at h5
      have h6 := List.cons.inj h5
      rw [hstep m n i h0 (by omega) h3 (by omega) h6.1]
      rw [ih (n + d) (i + 1) r (by omega) (by omega) (by omega) (by omega) (by omega) h6.2]
      have e : n + (d : Int) + d * (r : Int) = n + d * ((r + 1 : Nat) : Int) := by rw [Int.natCast_succ, Int.mul_add, Int.mul_one]; omega
      rw [e]
theorem eq_gen {E : Nat → Int → Option Bool} {len : Nat} (hl : len ≤ 4194304)
    (hend : ∀ m i, ¬ i < (len : Int) → E (m + 1) i = some true)
    (hstep : ∀ m i, 0 ≤ i → i < (len : Int) → E (m + 1) i = E m (i + 1)) :
    ∀ (m : Nat) (i : Int), 0 ≤ i → i ≤ len → len < i + m → E m i = some true := by
  intro m
  induction m with
  | zero => intro i h0 h1 h2; omega
  | succ m ih =>
    intro i h0 h1 h2
    by_cases h : i < (len : Int)
    · rw [hstep m i h0 h]; exact ih (i + 1) (by omega) (by omega) (by omega)
    · exact hend m i h
theorem to_gen {α : Type} {T : Nat → Int → List α → Option (List α)} {l : List α} {df : α} (hl : l.length ≤ 4194304)
    (hend : ∀ m i y, ¬ i < (l.length : Int) → T (m + 1) i y = some y)
    (hstep : ∀ m i y, 0 ≤ i → i < (l.length : Int) → y.length = l.length → T (m + 1) i y = T m (i + 1) (y.set i.toNat (l.getD i.toNat df))) :
    ∀ (m : Nat) (i : Int) (y : List α), 0 ≤ i → i ≤ l.length → l.length < i + m → y.length = l.length → T m i y = some (y.take i.toNat ++ l.drop i.toNat) := by
  intro m
  induction m with
  | zero => intro i y h0 h1 h2; omega
  | succ m ih =>
    intro i y h0 h1 h2 h3
    by_cases h : i < (l.length : Int)
    · rw [hstep m i y h0 h h3, ih (i + 1) _ (by omega) (by omega) (by omega) (by rw [List.length_set]; exact h3)]
      rw [dropC (d := df) h0 h, tn1 h0, take_set' _ _ _ (by omega), List.append_assoc]; rfl
    · rw [hend m i y h, dropN h0 h]
      have : y.length ≤ i.toNat := by omega
      simp [List.take_of_length_le this]
theorem sz_gen {S : Nat → Int → Int → Option Int} {len : Nat} (hl : len ≤ 4194304)
    (hend : ∀ m n i, ¬ i < (len : Int) → S (m + 1) n i = some n)
    (hstep : ∀ m n i, 0 ≤ i → i < (len : Int) → 0 ≤ n → n ≤ 1048576 → S (m + 1) n i = some (-1) ∨ ∃ r, 0 ≤ r ∧ r ≤ 1048576 ∧ S (m + 1) n i = S m r (i + 1)) :
    ∀ (m : Nat) (n i : Int), 0 ≤ i → i ≤ len → len < i + m → 0 ≤ n → n ≤ 1048576 → ∃ r, S m n i = some r ∧ -1 ≤ r ∧ r ≤ 1048576 := by
  intro m
  induction m with
  | zero => intro n i h0 h1 h2; omega
  | succ m ih =>
    intro n i h0 h1 h2 h3 h4
    by_cases h : i < (len : Int)
    · rcases hstep m n i h0 h h3 h4 with e | ⟨r, r0, r1, e⟩
      · exact ⟨-1, e, by omega, by omega⟩
      · rw [e]; exact ih r (i + 1) (by omega) (by omega) (by omega) r0 r1
    · exact ⟨n, hend m n i h, by omega, by omega⟩

/-! ### numbers as texts -/
theorem strOf_size (xs : List Int) : (strOf xs).size = xs.length := by simp [strOf, ByteArray.size]
def mtF : Nat → Int → ByteArray → ByteArray
  | 0, _, s => (⟨#[109]⟩ : ByteArray) ++ s
  | f + 1, n, s => if 0 < n then mtF f (Int.tdiv n 10) (strOf [IntKind.wrap .u8 (48 + Int.tmod n 10)] ++ s) else (⟨#[109]⟩ : ByteArray) ++ s
theorem laws_markText_l0_ev {k : Nat} : ∀ (f m : Nat) (n : Int) (s : ByteArray), 0 ≤ n → n ≤ 9223372036854775807 → n < 2 ^ f → f < m → s.size + f ≤ 1000 → laws_markText_l0 k m n s = some (mtF f n s) := by
  intro f
  induction f with
  | zero =>
    intro m n s h0 hb h1 h2 h3
    obtain ⟨m, rfl⟩ : ∃ j, m = j + 1 := ⟨m - 1, by omega⟩
    have hn : ¬ 0 < n := by simp at h1; omega
    have e1 : (⟨#[109]⟩ : ByteArray).size = 1 := rfl
    rw [laws_markText_l0_eq, e1]
    simp (disch := (first | assumption | omega)) only [if_pos, if_neg, if_t, if_f, not_true_eq_false, not_false_eq_true, Bool.false_eq_true, Bool.true_eq_false, eq_self, decide_true, decide_false, Bool.not_true, Bool.not_false, decide_eq_true_eq, Option.bind_some, Bool.not_eq_true', decide_eq_false_iff_not, hn, mtF]
  | succ f ih =>
    intro m n s h0 hb h1 h2 h3
    obtain ⟨m, rfl⟩ : ∃ j, m = j + 1 := ⟨m - 1, by omega⟩
    have e1 : (⟨#[109]⟩ : ByteArray).size = 1 := rfl
    rw [laws_markText_l0_eq, e1, strOf_size]
    by_cases hn : 0 < n
    · have hm : Int.tmod n 10 = n % 10 := Int.tmod_eq_emod_of_nonneg h0
      have hd : Int.tdiv n 10 = n / 10 := Int.tdiv_eq_ediv_of_nonneg h0
      have hp : n < 2 ^ f * 2 := by rw [Int.pow_succ] at h1; exact h1
      have b1 : n / 10 < 2 ^ f := by omega
      have w1 : IntKind.wrap .i64 (48 + Int.tmod n 10) = 48 + Int.tmod n 10 := by rw [hm]; exact wrp (by omega) (by omega)
      have w2 : IntKind.wrap .i64 (Int.tdiv n 10) = Int.tdiv n 10 := by
        rw [hd]; exact wrp (by omega) (by omega)
      rw [w1, w2]
      simp (disch := (first | assumption | omega)) only [if_pos, if_neg, if_t, if_f, not_true_eq_false, not_false_eq_true, Bool.false_eq_true, Bool.true_eq_false, eq_self, decide_true, decide_false, Bool.not_true, Bool.not_false, decide_eq_true_eq, Option.bind_some, Bool.not_eq_true', decide_eq_false_iff_not, hn, mtF, List.length_cons, List.length_nil]
      refine ih m _ _ (by rw [hd]; omega) (by rw [hd]; omega) (by rw [hd]; exact b1) (by omega) ?_
      have : (strOf [IntKind.wrap .u8 (48 + Int.tmod n 10)] ++ s).size = 1 + s.size := by rw [ByteArray.size_append, strOf_size]; rfl
      omega
    · simp (disch := (first | assumption | omega)) only [if_pos, if_neg, if_t, if_f, not_true_eq_false, not_false_eq_true, Bool.false_eq_true, Bool.true_eq_false, eq_self, decide_true, decide_false, Bool.not_true, Bool.not_false, decide_eq_true_eq, Option.bind_some, Bool.not_eq_true', decide_eq_false_iff_not, hn, mtF]
def txt (n : Int) : ByteArray := if n ≤ 0 then ⟨#[109, 48]⟩ else mtF 64 n (⟨#[]⟩ : ByteArray)
theorem laws_markText_ev {k : Nat} (hk : 4294967297 ≤ k) (n : Int) (h0 : 0 ≤ n) (h1 : n ≤ 9223372036854775807) : asO ByteArray (evF cfg0 k 86 n) = some (txt n) := by
  obtain ⟨k, rfl, hk⟩ := exS hk
  rw [laws_markText_eq, txt]
  by_cases h : n ≤ 0
  · simp (disch := (first | assumption | omega)) only [if_pos, if_neg, if_t, if_f, not_true_eq_false, not_false_eq_true, Bool.false_eq_true, Bool.true_eq_false, eq_self, decide_true, decide_false, Bool.not_true, Bool.not_false, decide_eq_true_eq, Option.bind_some, Bool.not_eq_true', decide_eq_false_iff_not, h]
  · simp (disch := (first | assumption | omega)) only [if_pos, if_neg, if_t, if_f, not_true_eq_false, not_false_eq_true, Bool.false_eq_true, Bool.true_eq_false, eq_self, decide_true, decide_false, Bool.not_true, Bool.not_false, decide_eq_true_eq, Option.bind_some, Bool.not_eq_true', decide_eq_false_iff_not, h]
    exact laws_markText_l0_ev 64 k n (⟨#[]⟩ : ByteArray) h0 h1 (by omega) (by omega) (by decide)
end Go.Proofs.Ytgnnljpdcafdkaa.Ev

/- The laws' helpers for lists. -/
namespace Go.Proofs.Ytgnnljpdcafdkaa.Ev
open Go
set_option linter.unusedVariables false

abbrev Opp := Int × ByteArray × ByteArray
abbrev Rpl := Bool × ByteArray × ByteArray
theorem getDs {α : Type} {l : List α} {i : Nat} {v d : α} (h : i < l.length) : (l.set i v).getD i d = v := by simp [List.getD, h]

def mkItem (n : Int) : Itm := (txt n, txt (n + 1), n + 1 + 1)
def mkOp (n : Int) : Opp := (n, txt (n + 1), txt (n + 1 + 1))
def mkReply (n : Int) : Rpl := (decide (Int.tmod n 3 = 0), txt (n + 1), txt (n + 1 + 1))
def mkInt (n : Int) : Int := n
def mkBool (n : Int) : Bool := decide (Int.tmod n 3 = 0)
def mkString (n : Int) : ByteArray := txt n

theorem laws_markItemS_ev {k : Nat} (hk : 4294967298 + 1 ≤ k) (l : List (Itm)) (n : Int) (hl : l.length ≤ 4194304) (h0 : 0 ≤ n) (h1 : n ≤ 1000000000) :
    asO (Int × List (Itm)) (evF cfg0 k 76 (l, n)) = some (n + ((3 : Nat) : Int) * l.length, mkL mkItem ((3 : Nat) : Int) n l.length) := by
  obtain ⟨k, rfl, hk'⟩ := exS hk
  rw [laws_markItemS_eq]
  have key := mark_gen (L := fun m n i y => laws_markItemS_l0 k m n i y) (mk := mkItem) 3 (by omega)
    (by
      intro m n i y h
      show laws_markItemS_l0 k (m + 1) n i y = _
      rw [laws_markItemS_l0_eq]; simp (disch := (first | assumption | omega)) only [if_pos, if_neg, if_t, if_f, not_true_eq_false, not_false_eq_true, Bool.false_eq_true, Bool.true_eq_false, eq_self, decide_true, decide_false, Bool.not_true, Bool.not_false, decide_eq_true_eq, Option.bind_some, Bool.not_eq_true', decide_eq_false_iff_not, h])
    (by
      intro m n i y h0 h1 h2 h3 h4
      show laws_markItemS_l0 k (m + 1) n i y = laws_markItemS_l0 k m (n + ((3 : Nat) : Int)) (i + 1) (y.set i.toNat (mkItem n))
      have e : n + ((3 : Nat) : Int) = n + 1 + 1 + 1 := by omega
      have e0 := laws_markText_ev (k := k) (by omega) n (by omega) (by omega)
      have e1 := laws_markText_ev (k := k) (by omega) (n + 1) (by omega) (by omega)
      have e2 := laws_markText_ev (k := k) (by omega) (n + 1 + 1) (by omega) (by omega)
      rw [e, laws_markItemS_l0_eq]
      have w1 : IntKind.wrap .i64 (n + 1) = n + 1 := wrp (by omega) (by omega)
      have w2 : IntKind.wrap .i64 (n + 1 + 1) = n + 1 + 1 := wrp (by omega) (by omega)
      have w3 : IntKind.wrap .i64 (n + 1 + 1 + 1) = n + 1 + 1 + 1 := wrp (by omega) (by omega)
      have wi : IntKind.wrap .i64 (i + 1) = i + 1 := wrp (by omega) (by omega)
      simp (disch := (first | assumption | omega)) only [if_pos, if_neg, if_t, if_f, not_true_eq_false, not_false_eq_true, Bool.false_eq_true, Bool.true_eq_false, eq_self, decide_true, decide_false, Bool.not_true, Bool.not_false, decide_eq_true_eq, Option.bind_some, Bool.not_eq_true', decide_eq_false_iff_not, w1, w2, w3, wi, e0, e1, e2, List.length_set, List.set_set, getDs, mkItem])
    k n 0 l l.length (by omega) (by omega) hl (by omega) h0 (by omega)
  simpa using key
theorem laws_heldItemS_ev {k : Nat} (hk : 4294967298 + 1 ≤ k) (n : Int) (j : Nat) (hl : j ≤ 4194304) (h0 : 0 ≤ n) (h1 : n ≤ 1000000000) :
    asO Int (evF cfg0 k 78 (mkL mkItem ((3 : Nat) : Int) n j, n)) = some (n + ((3 : Nat) : Int) * j) := by
  obtain ⟨k, rfl, hk'⟩ := exS hk
  rw [laws_heldItemS_eq]
  have hlen := mkL_len mkItem ((3 : Nat) : Int) j n
  generalize hml : mkL mkItem ((3 : Nat) : Int) n j = l at hlen
  refine held_gen (H := fun m n i => laws_heldItemS_l0 k m l n i) (mk := mkItem) (l := l) (df := Ty.dflt tItem) 3 (by omega) (by omega)
    (by
      intro m n i h
      show laws_heldItemS_l0 k (m + 1) l n i = _
      rw [laws_heldItemS_l0_eq]; simp (disch := (first | assumption | omega)) only [if_pos, if_neg, if_t, if_f, not_true_eq_false, not_false_eq_true, Bool.false_eq_true, Bool.true_eq_false, eq_self, decide_true, decide_false, Bool.not_true, Bool.not_false, decide_eq_true_eq, Option.bind_some, Bool.not_eq_true', decide_eq_false_iff_not, h])
    (by
      intro m n i h0 h1 h3 h4 hq
      show laws_heldItemS_l0 k (m + 1) l n i = laws_heldItemS_l0 k m l (n + ((3 : Nat) : Int)) (i + 1)
      have e : n + ((3 : Nat) : Int) = n + 1 + 1 + 1 := by omega
      have e0 := laws_markText_ev (k := k) (by omega) n (by omega) (by omega)
      have e1 := laws_markText_ev (k := k) (by omega) (n + 1) (by omega) (by omega)
      have e2 := laws_markText_ev (k := k) (by omega) (n + 1 + 1) (by omega) (by omega)
      rw [e, laws_heldItemS_l0_eq, hq]
      have w1 : IntKind.wrap .i64 (n + 1) = n + 1 := wrp (by omega) (by omega)
      have w2 : IntKind.wrap .i64 (n + 1 + 1) = n + 1 + 1 := wrp (by omega) (by omega)
      have w3 : IntKind.wrap .i64 (n + 1 + 1 + 1) = n + 1 + 1 + 1 := wrp (by omega) (by omega)
      have wi : IntKind.wrap .i64 (i + 1) = i + 1 := wrp (by omega) (by omega)
      simp (disch := (first | assumption | omega)) only [if_pos, if_neg, if_t, if_f, not_true_eq_false, not_false_eq_true, Bool.false_eq_true, Bool.true_eq_false, eq_self, decide_true, decide_false, Bool.not_true, Bool.not_false, decide_eq_true_eq, Option.bind_some, Bool.not_eq_true', decide_eq_false_iff_not, w1, w2, w3, wi, e0, e1, e2, mkItem, seq_dec, beq_self_eq_true])
    k n 0 j (by omega) (by omega) (by omega) h0 (by omega) (by rw [← hml]; simp)
theorem laws_markOpS_ev {k : Nat} (hk : 4294967298 + 1 ≤ k) (l : List (Opp)) (n : Int) (hl : l.length ≤ 4194304) (h0 : 0 ≤ n) (h1 : n ≤ 1000000000) :
    asO (Int × List (Opp)) (evF cfg0 k 37 (l, n)) = some (n + ((3 : Nat) : Int) * l.length, mkL mkOp ((3 : Nat) : Int) n l.length) := by
  obtain ⟨k, rfl, hk'⟩ := exS hk
  rw [laws_markOpS_eq]
  have key := mark_gen (L := fun m n i y => laws_markOpS_l0 k m n i y) (mk := mkOp) 3 (by omega)
    (by
      intro m n i y h
      show laws_markOpS_l0 k (m + 1) n i y = _
      rw [laws_markOpS_l0_eq]; simp (disch := (first | assumption | omega)) only [if_pos, if_neg, if_t, if_f, not_true_eq_false, not_false_eq_true, Bool.false_eq_true, Bool.true_eq_false, eq_self, decide_true, decide_false, Bool.not_true, Bool.not_false, decide_eq_true_eq, Option.bind_some, Bool.not_eq_true', decide_eq_false_iff_not, h])
    (by
      intro m n i y h0 h1 h2 h3 h4
      show laws_markOpS_l0 k (m + 1) n i y = laws_markOpS_l0 k m (n + ((3 : Nat) : Int)) (i + 1) (y.set i.toNat (mkOp n))
      have e : n + ((3 : Nat) : Int) = n + 1 + 1 + 1 := by omega
      have e0 := laws_markText_ev (k := k) (by omega) n (by omega) (by omega)
      have e1 := laws_markText_ev (k := k) (by omega) (n + 1) (by omega) (by omega)
      have e2 := laws_markText_ev (k := k) (by omega) (n + 1 + 1) (by omega) (by omega)
      rw [e, laws_markOpS_l0_eq]
      have w1 : IntKind.wrap .i64 (n + 1) = n + 1 := wrp (by omega) (by omega)
      have w2 : IntKind.wrap .i64 (n + 1 + 1) = n + 1 + 1 := wrp (by omega) (by omega)
      have w3 : IntKind.wrap .i64 (n + 1 + 1 + 1) = n + 1 + 1 + 1 := wrp (by omega) (by omega)
      have wi : IntKind.wrap .i64 (i + 1) = i + 1 := wrp (by omega) (by omega)
      simp (disch := (first | assumption | omega)) only [if_pos, if_neg, if_t, if_f, not_true_eq_false, not_false_eq_true, Bool.false_eq_true, Bool.true_eq_false, eq_self, decide_true, decide_false, Bool.not_true, Bool.not_false, decide_eq_true_eq, Option.bind_some, Bool.not_eq_true', decide_eq_false_iff_not, w1, w2, w3, wi, e0, e1, e2, List.length_set, List.set_set, getDs, mkOp])
    k n 0 l l.length (by omega) (by omega) hl (by omega) h0 (by omega)
  simpa using key
theorem laws_markReplyS_ev {k : Nat} (hk : 4294967298 + 1 ≤ k) (l : List (Rpl)) (n : Int) (hl : l.length ≤ 4194304) (h0 : 0 ≤ n) (h1 : n ≤ 1000000000) :
    asO (Int × List (Rpl)) (evF cfg0 k 38 (l, n)) = some (n + ((3 : Nat) : Int) * l.length, mkL mkReply ((3 : Nat) : Int) n l.length) := by
  obtain ⟨k, rfl, hk'⟩ := exS hk
  rw [laws_markReplyS_eq]
  have key := mark_gen (L := fun m n i y => laws_markReplyS_l0 k m n i y) (mk := mkReply) 3 (by omega)
    (by
      intro m n i y h
      show laws_markReplyS_l0 k (m + 1) n i y = _
      rw [laws_markReplyS_l0_eq]; simp (disch := (first | assumption | omega)) only [if_pos, if_neg, if_t, if_f, not_true_eq_false, not_false_eq_true, Bool.false_eq_true, Bool.true_eq_false, eq_self, decide_true, decide_false, Bool.not_true, Bool.not_false, decide_eq_true_eq, Option.bind_some, Bool.not_eq_true', decide_eq_false_iff_not, h])
    (by
      intro m n i y h0 h1 h2 h3 h4
      show laws_markReplyS_l0 k (m + 1) n i y = laws_markReplyS_l0 k m (n + ((3 : Nat) : Int)) (i + 1) (y.set i.toNat (mkReply n))
      have e : n + ((3 : Nat) : Int) = n + 1 + 1 + 1 := by omega
      have e0 := laws_markText_ev (k := k) (by omega) n (by omega) (by omega)
      have e1 := laws_markText_ev (k := k) (by omega) (n + 1) (by omega) (by omega)
      have e2 := laws_markText_ev (k := k) (by omega) (n + 1 + 1) (by omega) (by omega)
      rw [e, laws_markReplyS_l0_eq]
      have w1 : IntKind.wrap .i64 (n + 1) = n + 1 := wrp (by omega) (by omega)
      have w2 : IntKind.wrap .i64 (n + 1 + 1) = n + 1 + 1 := wrp (by omega) (by omega)
      have w3 : IntKind.wrap .i64 (n + 1 + 1 + 1) = n + 1 + 1 + 1 := wrp (by omega) (by omega)
      have wi : IntKind.wrap .i64 (i + 1) = i + 1 := wrp (by omega) (by omega)
      simp (disch := (first | assumption | omega)) only [if_pos, if_neg, if_t, if_f, not_true_eq_false, not_false_eq_true, Bool.false_eq_true, Bool.true_eq_false, eq_self, decide_true, decide_false, Bool.not_true, Bool.not_false, decide_eq_true_eq, Option.bind_some, Bool.not_eq_true', decide_eq_false_iff_not, w1, w2, w3, wi, e0, e1, e2, List.length_set, List.set_set, getDs, mkReply])
    k n 0 l l.length (by omega) (by omega) hl (by omega) h0 (by omega)
  simpa using key
theorem laws_heldReplyS_ev {k : Nat} (hk : 4294967298 + 1 ≤ k) (n : Int) (j : Nat) (hl : j ≤ 4194304) (h0 : 0 ≤ n) (h1 : n ≤ 1000000000) :
    asO Int (evF cfg0 k 39 (mkL mkReply ((3 : Nat) : Int) n j, n)) = some (n + ((3 : Nat) : Int) * j) := by
  obtain ⟨k, rfl, hk'⟩ := exS hk
  rw [laws_heldReplyS_eq]
  have hlen := mkL_len mkReply ((3 : Nat) : Int) j n
  generalize hml : mkL mkReply ((3 : Nat) : Int) n j = l at hlen
  refine held_gen (H := fun m n i => laws_heldReplyS_l0 k m l n i) (mk := mkReply) (l := l) (df := Ty.dflt tReply) 3 (by omega) (by omega)
    (by
      intro m n i h
      show laws_heldReplyS_l0 k (m + 1) l n i = _
      rw [laws_heldReplyS_l0_eq]; simp (disch := (first | assumption | omega)) only [if_pos, if_neg, if_t, if_f, not_true_eq_false, not_false_eq_true, Bool.false_eq_true, Bool.true_eq_false, eq_self, decide_true, decide_false, Bool.not_true, Bool.not_false, decide_eq_true_eq, Option.bind_some, Bool.not_eq_true', decide_eq_false_iff_not, h])
    (by
      intro m n i h0 h1 h3 h4 hq
      show laws_heldReplyS_l0 k (m + 1) l n i = laws_heldReplyS_l0 k m l (n + ((3 : Nat) : Int)) (i + 1)
      have e : n + ((3 : Nat) : Int) = n + 1 + 1 + 1 := by omega
      have e0 := laws_markText_ev (k := k) (by omega) n (by omega) (by omega)
      have e1 := laws_markText_ev (k := k) (by omega) (n + 1) (by omega) (by omega)
      have e2 := laws_markText_ev (k := k) (by omega) (n + 1 + 1) (by omega) (by omega)
      rw [e, laws_heldReplyS_l0_eq, hq]
      have w1 : IntKind.wrap .i64 (n + 1) = n + 1 := wrp (by omega) (by omega)
      have w2 : IntKind.wrap .i64 (n + 1 + 1) = n + 1 + 1 := wrp (by omega) (by omega)
      have w3 : IntKind.wrap .i64 (n + 1 + 1 + 1) = n + 1 + 1 + 1 := wrp (by omega) (by omega)
      have wi : IntKind.wrap .i64 (i + 1) = i + 1 := wrp (by omega) (by omega)
      simp (disch := (first | assumption | omega)) only [if_pos, if_neg, if_t, if_f, not_true_eq_false, not_false_eq_true, Bool.false_eq_true, Bool.true_eq_false, eq_self, decide_true, decide_false, Bool.not_true, Bool.not_false, decide_eq_true_eq, Option.bind_some, Bool.not_eq_true', decide_eq_false_iff_not, w1, w2, w3, wi, e0, e1, e2, mkReply, seq_dec, beq_self_eq_true])
    k n 0 j (by omega) (by omega) (by omega) h0 (by omega) (by rw [← hml]; simp)
theorem laws_markIntS_ev {k : Nat} (hk : 4294967297 + 1 ≤ k) (l : List (Int)) (n : Int) (hl : l.length ≤ 4194304) (h0 : 0 ≤ n) (h1 : n ≤ 1000000000) :
    asO (Int × List (Int)) (evF cfg0 k 77 (l, n)) = some (n + ((1 : Nat) : Int) * l.length, mkL mkInt ((1 : Nat) : Int) n l.length) := by
  obtain ⟨k, rfl, hk'⟩ := exS hk
  rw [laws_markIntS_eq]
  have key := mark_gen (L := fun m n i y => laws_markIntS_l0 k m n i y) (mk := mkInt) 1 (by omega)
    (by
      intro m n i y h
      show laws_markIntS_l0 k (m + 1) n i y = _
      rw [laws_markIntS_l0_eq]; simp (disch := (first | assumption | omega)) only [if_pos, if_neg, if_t, if_f, not_true_eq_false, not_false_eq_true, Bool.false_eq_true, Bool.true_eq_false, eq_self, decide_true, decide_false, Bool.not_true, Bool.not_false, decide_eq_true_eq, Option.bind_some, Bool.not_eq_true', decide_eq_false_iff_not, h])
    (by
      intro m n i y h0 h1 h2 h3 h4
      show laws_markIntS_l0 k (m + 1) n i y = laws_markIntS_l0 k m (n + ((1 : Nat) : Int)) (i + 1) (y.set i.toNat (mkInt n))
      have e : n + ((1 : Nat) : Int) = n + 1 := by omega
      have e0 := laws_markText_ev (k := k) (by omega) n (by omega) (by omega)
      have e1 := laws_markText_ev (k := k) (by omega) (n + 1) (by omega) (by omega)
      have e2 := laws_markText_ev (k := k) (by omega) (n + 1 + 1) (by omega) (by omega)
      rw [e, laws_markIntS_l0_eq]
      have w1 : IntKind.wrap .i64 (n + 1) = n + 1 := wrp (by omega) (by omega)
      have w2 : IntKind.wrap .i64 (n + 1 + 1) = n + 1 + 1 := wrp (by omega) (by omega)
      have w3 : IntKind.wrap .i64 (n + 1 + 1 + 1) = n + 1 + 1 + 1 := wrp (by omega) (by omega)
      have wi : IntKind.wrap .i64 (i + 1) = i + 1 := wrp (by omega) (by omega)
      simp (disch := (first | assumption | omega)) only [if_pos, if_neg, if_t, if_f, not_true_eq_false, not_false_eq_true, Bool.false_eq_true, Bool.true_eq_false, eq_self, decide_true, decide_false, Bool.not_true, Bool.not_false, decide_eq_true_eq, Option.bind_some, Bool.not_eq_true', decide_eq_false_iff_not, w1, w2, w3, wi, e0, e1, e2, List.length_set, List.set_set, getDs, mkInt])
    k n 0 l l.length (by omega) (by omega) hl (by omega) h0 (by omega)
  simpa using key
theorem laws_heldIntS_ev {k : Nat} (hk : 4294967297 + 1 ≤ k) (n : Int) (j : Nat) (hl : j ≤ 4194304) (h0 : 0 ≤ n) (h1 : n ≤ 1000000000) :
    asO Int (evF cfg0 k 79 (mkL mkInt ((1 : Nat) : Int) n j, n)) = some (n + ((1 : Nat) : Int) * j) := by
  obtain ⟨k, rfl, hk'⟩ := exS hk
  rw [laws_heldIntS_eq]
  have hlen := mkL_len mkInt ((1 : Nat) : Int) j n
  generalize hml : mkL mkInt ((1 : Nat) : Int) n j = l at hlen
  refine held_gen (H := fun m n i => laws_heldIntS_l0 k m l n i) (mk := mkInt) (l := l) (df := 0) 1 (by omega) (by omega)
    (by
      intro m n i h
      show laws_heldIntS_l0 k (m + 1) l n i = _
      rw [laws_heldIntS_l0_eq]; simp (disch := (first | assumption | omega)) only [if_pos, if_neg, if_t, if_f, not_true_eq_false, not_false_eq_true, Bool.false_eq_true, Bool.true_eq_false, eq_self, decide_true, decide_false, Bool.not_true, Bool.not_false, decide_eq_true_eq, Option.bind_some, Bool.not_eq_true', decide_eq_false_iff_not, h])
    (by
      intro m n i h0 h1 h3 h4 hq
      show laws_heldIntS_l0 k (m + 1) l n i = laws_heldIntS_l0 k m l (n + ((1 : Nat) : Int)) (i + 1)
      have e : n + ((1 : Nat) : Int) = n + 1 := by omega
      have e0 := laws_markText_ev (k := k) (by omega) n (by omega) (by omega)
      have e1 := laws_markText_ev (k := k) (by omega) (n + 1) (by omega) (by omega)
      have e2 := laws_markText_ev (k := k) (by omega) (n + 1 + 1) (by omega) (by omega)
      rw [e, laws_heldIntS_l0_eq, hq]
      have w1 : IntKind.wrap .i64 (n + 1) = n + 1 := wrp (by omega) (by omega)
      have w2 : IntKind.wrap .i64 (n + 1 + 1) = n + 1 + 1 := wrp (by omega) (by omega)
      have w3 : IntKind.wrap .i64 (n + 1 + 1 + 1) = n + 1 + 1 + 1 := wrp (by omega) (by omega)
      have wi : IntKind.wrap .i64 (i + 1) = i + 1 := wrp (by omega) (by omega)
      simp (disch := (first | assumption | omega)) only [if_pos, if_neg, if_t, if_f, not_true_eq_false, not_false_eq_true, Bool.false_eq_true, Bool.true_eq_false, eq_self, decide_true, decide_false, Bool.not_true, Bool.not_false, decide_eq_true_eq, Option.bind_some, Bool.not_eq_true', decide_eq_false_iff_not, w1, w2, w3, wi, e0, e1, e2, mkInt, seq_dec, beq_self_eq_true])
    k n 0 j (by omega) (by omega) (by omega) h0 (by omega) (by rw [← hml]; simp)
theorem laws_markBoolS_ev {k : Nat} (hk : 4294967297 + 1 ≤ k) (l : List (Bool)) (n : Int) (hl : l.length ≤ 4194304) (h0 : 0 ≤ n) (h1 : n ≤ 1000000000) :
    asO (Int × List (Bool)) (evF cfg0 k 24 (l, n)) = some (n + ((1 : Nat) : Int) * l.length, mkL mkBool ((1 : Nat) : Int) n l.length) := by
  obtain ⟨k, rfl, hk'⟩ := exS hk
  rw [laws_markBoolS_eq]
  have key := mark_gen (L := fun m n i y => laws_markBoolS_l0 k m n i y) (mk := mkBool) 1 (by omega)
    (by
      intro m n i y h
      show laws_markBoolS_l0 k (m + 1) n i y = _
      rw [laws_markBoolS_l0_eq]; simp (disch := (first | assumption | omega)) only [if_pos, if_neg, if_t, if_f, not_true_eq_false, not_false_eq_true, Bool.false_eq_true, Bool.true_eq_false, eq_self, decide_true, decide_false, Bool.not_true, Bool.not_false, decide_eq_true_eq, Option.bind_some, Bool.not_eq_true', decide_eq_false_iff_not, h])
    (by
      intro m n i y h0 h1 h2 h3 h4
      show laws_markBoolS_l0 k (m + 1) n i y = laws_markBoolS_l0 k m (n + ((1 : Nat) : Int)) (i + 1) (y.set i.toNat (mkBool n))
      have e : n + ((1 : Nat) : Int) = n + 1 := by omega
      have e0 := laws_markText_ev (k := k) (by omega) n (by omega) (by omega)
      have e1 := laws_markText_ev (k := k) (by omega) (n + 1) (by omega) (by omega)
      have e2 := laws_markText_ev (k := k) (by omega) (n + 1 + 1) (by omega) (by omega)
      rw [e, laws_markBoolS_l0_eq]
      have w1 : IntKind.wrap .i64 (n + 1) = n + 1 := wrp (by omega) (by omega)
      have w2 : IntKind.wrap .i64 (n + 1 + 1) = n + 1 + 1 := wrp (by omega) (by omega)
      have w3 : IntKind.wrap .i64 (n + 1 + 1 + 1) = n + 1 + 1 + 1 := wrp (by omega) (by omega)
      have wi : IntKind.wrap .i64 (i + 1) = i + 1 := wrp (by omega) (by omega)
      simp (disch := (first | assumption | omega)) only [if_pos, if_neg, if_t, if_f, not_true_eq_false, not_false_eq_true, Bool.false_eq_true, Bool.true_eq_false, eq_self, decide_true, decide_false, Bool.not_true, Bool.not_false, decide_eq_true_eq, Option.bind_some, Bool.not_eq_true', decide_eq_false_iff_not, w1, w2, w3, wi, e0, e1, e2, List.length_set, List.set_set, getDs, mkBool])
    k n 0 l l.length (by omega) (by omega) hl (by omega) h0 (by omega)
  simpa using key
theorem laws_heldBoolS_ev {k : Nat} (hk : 4294967297 + 1 ≤ k) (n : Int) (j : Nat) (hl : j ≤ 4194304) (h0 : 0 ≤ n) (h1 : n ≤ 1000000000) :
    asO Int (evF cfg0 k 25 (mkL mkBool ((1 : Nat) : Int) n j, n)) = some (n + ((1 : Nat) : Int) * j) := by
  obtain ⟨k, rfl, hk'⟩ := exS hk
  rw [laws_heldBoolS_eq]
  have hlen := mkL_len mkBool ((1 : Nat) : Int) j n
  generalize hml : mkL mkBool ((1 : Nat) : Int) n j = l at hlen
  refine held_gen (H := fun m n i => laws_heldBoolS_l0 k m l n i) (mk := mkBool) (l := l) (df := false) 1 (by omega) (by omega)
    (by
      intro m n i h
      show laws_heldBoolS_l0 k (m + 1) l n i = _
      rw [laws_heldBoolS_l0_eq]; simp (disch := (first | assumption | omega)) only [if_pos, if_neg, if_t, if_f, not_true_eq_false, not_false_eq_true, Bool.false_eq_true, Bool.true_eq_false, eq_self, decide_true, decide_false, Bool.not_true, Bool.not_false, decide_eq_true_eq, Option.bind_some, Bool.not_eq_true', decide_eq_false_iff_not, h])
    (by
      intro m n i h0 h1 h3 h4 hq
      show laws_heldBoolS_l0 k (m + 1) l n i = laws_heldBoolS_l0 k m l (n + ((1 : Nat) : Int)) (i + 1)
      have e : n + ((1 : Nat) : Int) = n + 1 := by omega
      have e0 := laws_markText_ev (k := k) (by omega) n (by omega) (by omega)
      have e1 := laws_markText_ev (k := k) (by omega) (n + 1) (by omega) (by omega)
      have e2 := laws_markText_ev (k := k) (by omega) (n + 1 + 1) (by omega) (by omega)
      rw [e, laws_heldBoolS_l0_eq, hq]
      have w1 : IntKind.wrap .i64 (n + 1) = n + 1 := wrp (by omega) (by omega)
      have w2 : IntKind.wrap .i64 (n + 1 + 1) = n + 1 + 1 := wrp (by omega) (by omega)
      have w3 : IntKind.wrap .i64 (n + 1 + 1 + 1) = n + 1 + 1 + 1 := wrp (by omega) (by omega)
      have wi : IntKind.wrap .i64 (i + 1) = i + 1 := wrp (by omega) (by omega)
      simp (disch := (first | assumption | omega)) only [if_pos, if_neg, if_t, if_f, not_true_eq_false, not_false_eq_true, Bool.false_eq_true, Bool.true_eq_false, eq_self, decide_true, decide_false, Bool.not_true, Bool.not_false, decide_eq_true_eq, Option.bind_some, Bool.not_eq_true', decide_eq_false_iff_not, w1, w2, w3, wi, e0, e1, e2, mkBool, seq_dec, beq_self_eq_true])
    k n 0 j (by omega) (by omega) (by omega) h0 (by omega) (by rw [← hml]; simp)
theorem laws_markStringS_ev {k : Nat} (hk : 4294967298 + 1 ≤ k) (l : List (ByteArray)) (n : Int) (hl : l.length ≤ 4194304) (h0 : 0 ≤ n) (h1 : n ≤ 1000000000) :
    asO (Int × List (ByteArray)) (evF cfg0 k 23 (l, n)) = some (n + ((1 : Nat) : Int) * l.length, mkL mkString ((1 : Nat) : Int) n l.length) := by
  obtain ⟨k, rfl, hk'⟩ := exS hk
  rw [laws_markStringS_eq]
  have key := mark_gen (L := fun m n i y => laws_markStringS_l0 k m n i y) (mk := mkString) 1 (by omega)
    (by
      intro m n i y h
      show laws_markStringS_l0 k (m + 1) n i y = _
      rw [laws_markStringS_l0_eq]; simp (disch := (first | assumption | omega)) only [if_pos, if_neg, if_t, if_f, not_true_eq_false, not_false_eq_true, Bool.false_eq_true, Bool.true_eq_false, eq_self, decide_true, decide_false, Bool.not_true, Bool.not_false, decide_eq_true_eq, Option.bind_some, Bool.not_eq_true', decide_eq_false_iff_not, h])
    (by
      intro m n i y h0 h1 h2 h3 h4
      show laws_markStringS_l0 k (m + 1) n i y = laws_markStringS_l0 k m (n + ((1 : Nat) : Int)) (i + 1) (y.set i.toNat (mkString n))
      have e : n + ((1 : Nat) : Int) = n + 1 := by omega
      have e0 := laws_markText_ev (k := k) (by omega) n (by omega) (by omega)
      have e1 := laws_markText_ev (k := k) (by omega) (n + 1) (by omega) (by omega)
      have e2 := laws_markText_ev (k := k) (by omega) (n + 1 + 1) (by omega) (by omega)
      rw [e, laws_markStringS_l0_eq]
      have w1 : IntKind.wrap .i64 (n + 1) = n + 1 := wrp (by omega) (by omega)
      have w2 : IntKind.wrap .i64 (n + 1 + 1) = n + 1 + 1 := wrp (by omega) (by omega)
      have w3 : IntKind.wrap .i64 (n + 1 + 1 + 1) = n + 1 + 1 + 1 := wrp (by omega) (by omega)
      have wi : IntKind.wrap .i64 (i + 1) = i + 1 := wrp (by omega) (by omega)
      simp (disch := (first | assumption | omega)) only [if_pos, if_neg, if_t, if_f, not_true_eq_false, not_false_eq_true, Bool.false_eq_true, Bool.true_eq_false, eq_self, decide_true, decide_false, Bool.not_true, Bool.not_false, decide_eq_true_eq, Option.bind_some, Bool.not_eq_true', decide_eq_false_iff_not, w1, w2, w3, wi, e0, e1, e2, List.length_set, List.set_set, getDs, mkString])
    k n 0 l l.length (by omega) (by omega) hl (by omega) h0 (by omega)
  simpa using key
theorem laws_heldStringS_ev {k : Nat} (hk : 4294967298 + 1 ≤ k) (n : Int) (j : Nat) (hl : j ≤ 4194304) (h0 : 0 ≤ n) (h1 : n ≤ 1000000000) :
    asO Int (evF cfg0 k 28 (mkL mkString ((1 : Nat) : Int) n j, n)) = some (n + ((1 : Nat) : Int) * j) := by
  obtain ⟨k, rfl, hk'⟩ := exS hk
  rw [laws_heldStringS_eq]
  have hlen := mkL_len mkString ((1 : Nat) : Int) j n
  generalize hml : mkL mkString ((1 : Nat) : Int) n j = l at hlen
  refine held_gen (H := fun m n i => laws_heldStringS_l0 k m l n i) (mk := mkString) (l := l) (df := (⟨#[]⟩ : ByteArray)) 1 (by omega) (by omega)
    (by
      intro m n i h
      show laws_heldStringS_l0 k (m + 1) l n i = _
      rw [laws_heldStringS_l0_eq]; simp (disch := (first | assumption | omega)) only [if_pos, if_neg, if_t, if_f, not_true_eq_false, not_false_eq_true, Bool.false_eq_true, Bool.true_eq_false, eq_self, decide_true, decide_false, Bool.not_true, Bool.not_false, decide_eq_true_eq, Option.bind_some, Bool.not_eq_true', decide_eq_false_iff_not, h])
    (by
      intro m n i h0 h1 h3 h4 hq
      show laws_heldStringS_l0 k (m + 1) l n i = laws_heldStringS_l0 k m l (n + ((1 : Nat) : Int)) (i + 1)
      have e : n + ((1 : Nat) : Int) = n + 1 := by omega
      have e0 := laws_markText_ev (k := k) (by omega) n (by omega) (by omega)
      have e1 := laws_markText_ev (k := k) (by omega) (n + 1) (by omega) (by omega)
      have e2 := laws_markText_ev (k := k) (by omega) (n + 1 + 1) (by omega) (by omega)
      rw [e, laws_heldStringS_l0_eq, hq]
      have w1 : IntKind.wrap .i64 (n + 1) = n + 1 := wrp (by omega) (by omega)
      have w2 : IntKind.wrap .i64 (n + 1 + 1) = n + 1 + 1 := wrp (by omega) (by omega)
      have w3 : IntKind.wrap .i64 (n + 1 + 1 + 1) = n + 1 + 1 + 1 := wrp (by omega) (by omega)
      have wi : IntKind.wrap .i64 (i + 1) = i + 1 := wrp (by omega) (by omega)
      simp (disch := (first | assumption | omega)) only [if_pos, if_neg, if_t, if_f, not_true_eq_false, not_false_eq_true, Bool.false_eq_true, Bool.true_eq_false, eq_self, decide_true, decide_false, Bool.not_true, Bool.not_false, decide_eq_true_eq, Option.bind_some, Bool.not_eq_true', decide_eq_false_iff_not, w1, w2, w3, wi, e0, e1, e2, mkString, seq_dec, beq_self_eq_true])
    k n 0 j (by omega) (by omega) (by omega) h0 (by omega) (by rw [← hml]; simp)

theorem laws_eqItem_ev {k : Nat} (hk : 4294967297 ≤ k) (x : Itm) : asO Bool (evF cfg0 k 143 (x, x)) = some true := by
  obtain ⟨k, rfl, hk⟩ := exS hk
  obtain ⟨a, b, c⟩ := x
  rw [laws_eqItem_eq]
  simp (disch := (first | assumption | omega)) only [if_pos, if_neg, if_t, if_f, not_true_eq_false, not_false_eq_true, Bool.false_eq_true, Bool.true_eq_false, eq_self, decide_true, decide_false, Bool.not_true, Bool.not_false, decide_eq_true_eq, Option.bind_some, Bool.not_eq_true', decide_eq_false_iff_not, seq_dec, beq_self_eq_true]
theorem laws_eqItemS_ev {k : Nat} (hk : 4294967298 ≤ k) (l : List (Itm)) (hl : l.length ≤ 4194304) : asO Bool (evF cfg0 k 74 (l, l)) = some true := by
  obtain ⟨k, rfl, hk'⟩ := exS hk
  rw [laws_eqItemS_eq]
  have key := eq_gen (E := fun m i => laws_eqItemS_l0 k m l l i) (len := l.length) hl
    (by
      intro m i h
      show laws_eqItemS_l0 k (m + 1) l l i = _
      rw [laws_eqItemS_l0_eq]; simp (disch := (first | assumption | omega)) only [if_pos, if_neg, if_t, if_f, not_true_eq_false, not_false_eq_true, Bool.false_eq_true, Bool.true_eq_false, eq_self, decide_true, decide_false, Bool.not_true, Bool.not_false, decide_eq_true_eq, Option.bind_some, Bool.not_eq_true', decide_eq_false_iff_not, h])
    (by
      intro m i h0 h1
      show laws_eqItemS_l0 k (m + 1) l l i = laws_eqItemS_l0 k m l l (i + 1)
      rw [laws_eqItemS_l0_eq, laws_eqItem_ev (by omega)]
      simp (disch := (first | assumption | omega)) only [if_pos, if_neg, if_t, if_f, not_true_eq_false, not_false_eq_true, Bool.false_eq_true, Bool.true_eq_false, eq_self, decide_true, decide_false, Bool.not_true, Bool.not_false, decide_eq_true_eq, Option.bind_some, Bool.not_eq_true', decide_eq_false_iff_not, wrp])
    k 0 (by omega) (by omega) (by omega)
  simp (disch := (first | assumption | omega)) only [if_pos, if_neg, if_t, if_f, not_true_eq_false, not_false_eq_true, Bool.false_eq_true, Bool.true_eq_false, eq_self, decide_true, decide_false, Bool.not_true, Bool.not_false, decide_eq_true_eq, Option.bind_some, Bool.not_eq_true', decide_eq_false_iff_not, ]
  exact key
theorem laws_eqOp_ev {k : Nat} (hk : 4294967297 ≤ k) (x : Opp) : asO Bool (evF cfg0 k 100 (x, x)) = some true := by
  obtain ⟨k, rfl, hk⟩ := exS hk
  obtain ⟨a, b, c⟩ := x
  rw [laws_eqOp_eq]
  simp (disch := (first | assumption | omega)) only [if_pos, if_neg, if_t, if_f, not_true_eq_false, not_false_eq_true, Bool.false_eq_true, Bool.true_eq_false, eq_self, decide_true, decide_false, Bool.not_true, Bool.not_false, decide_eq_true_eq, Option.bind_some, Bool.not_eq_true', decide_eq_false_iff_not, seq_dec, beq_self_eq_true]
theorem laws_eqOpS_ev {k : Nat} (hk : 4294967298 ≤ k) (l : List (Opp)) (hl : l.length ≤ 4194304) : asO Bool (evF cfg0 k 36 (l, l)) = some true := by
  obtain ⟨k, rfl, hk'⟩ := exS hk
  rw [laws_eqOpS_eq]
  have key := eq_gen (E := fun m i => laws_eqOpS_l0 k m l l i) (len := l.length) hl
    (by
      intro m i h
      show laws_eqOpS_l0 k (m + 1) l l i = _
      rw [laws_eqOpS_l0_eq]; simp (disch := (first | assumption | omega)) only [if_pos, if_neg, if_t, if_f, not_true_eq_false, not_false_eq_true, Bool.false_eq_true, Bool.true_eq_false, eq_self, decide_true, decide_false, Bool.not_true, Bool.not_false, decide_eq_true_eq, Option.bind_some, Bool.not_eq_true', decide_eq_false_iff_not, h])
    (by
      intro m i h0 h1
      show laws_eqOpS_l0 k (m + 1) l l i = laws_eqOpS_l0 k m l l (i + 1)
      rw [laws_eqOpS_l0_eq, laws_eqOp_ev (by omega)]
      simp (disch := (first | assumption | omega)) only [if_pos, if_neg, if_t, if_f, not_true_eq_false, not_false_eq_true, Bool.false_eq_true, Bool.true_eq_false, eq_self, decide_true, decide_false, Bool.not_true, Bool.not_false, decide_eq_true_eq, Option.bind_some, Bool.not_eq_true', decide_eq_false_iff_not, wrp])
    k 0 (by omega) (by omega) (by omega)
  simp (disch := (first | assumption | omega)) only [if_pos, if_neg, if_t, if_f, not_true_eq_false, not_false_eq_true, Bool.false_eq_true, Bool.true_eq_false, eq_self, decide_true, decide_false, Bool.not_true, Bool.not_false, decide_eq_true_eq, Option.bind_some, Bool.not_eq_true', decide_eq_false_iff_not, ]
  exact key
theorem laws_eqReply_ev {k : Nat} (hk : 4294967297 ≤ k) (x : Rpl) : asO Bool (evF cfg0 k 99 (x, x)) = some true := by
  obtain ⟨k, rfl, hk⟩ := exS hk
  obtain ⟨a, b, c⟩ := x
  rw [laws_eqReply_eq]
  simp (disch := (first | assumption | omega)) only [if_pos, if_neg, if_t, if_f, not_true_eq_false, not_false_eq_true, Bool.false_eq_true, Bool.true_eq_false, eq_self, decide_true, decide_false, Bool.not_true, Bool.not_false, decide_eq_true_eq, Option.bind_some, Bool.not_eq_true', decide_eq_false_iff_not, seq_dec, beq_self_eq_true]
theorem laws_eqReplyS_ev {k : Nat} (hk : 4294967298 ≤ k) (l : List (Rpl)) (hl : l.length ≤ 4194304) : asO Bool (evF cfg0 k 35 (l, l)) = some true := by
  obtain ⟨k, rfl, hk'⟩ := exS hk
  rw [laws_eqReplyS_eq]
  have key := eq_gen (E := fun m i => laws_eqReplyS_l0 k m l l i) (len := l.length) hl
    (by
      intro m i h
      show laws_eqReplyS_l0 k (m + 1) l l i = _
      rw [laws_eqReplyS_l0_eq]; simp (disch := (first | assumption | omega)) only [if_pos, if_neg, if_t, if_f, not_true_eq_false, not_false_eq_true, Bool.false_eq_true, Bool.true_eq_false, eq_self, decide_true, decide_false, Bool.not_true, Bool.not_false, decide_eq_true_eq, Option.bind_some, Bool.not_eq_true', decide_eq_false_iff_not, h])
    (by
      intro m i h0 h1
      show laws_eqReplyS_l0 k (m + 1) l l i = laws_eqReplyS_l0 k m l l (i + 1)
      rw [laws_eqReplyS_l0_eq, laws_eqReply_ev (by omega)]
      simp (disch := (first | assumption | omega)) only [if_pos, if_neg, if_t, if_f, not_true_eq_false, not_false_eq_true, Bool.false_eq_true, Bool.true_eq_false, eq_self, decide_true, decide_false, Bool.not_true, Bool.not_false, decide_eq_true_eq, Option.bind_some, Bool.not_eq_true', decide_eq_false_iff_not, wrp])
    k 0 (by omega) (by omega) (by omega)
  simp (disch := (first | assumption | omega)) only [if_pos, if_neg, if_t, if_f, not_true_eq_false, not_false_eq_true, Bool.false_eq_true, Bool.true_eq_false, eq_self, decide_true, decide_false, Bool.not_true, Bool.not_false, decide_eq_true_eq, Option.bind_some, Bool.not_eq_true', decide_eq_false_iff_not, ]
  exact key
theorem laws_eqIntS_ev {k : Nat} (hk : 4294967297 ≤ k) (l : List (Int)) (hl : l.length ≤ 4194304) : asO Bool (evF cfg0 k 75 (l, l)) = some true := by
  obtain ⟨k, rfl, hk'⟩ := exS hk
  rw [laws_eqIntS_eq]
  have key := eq_gen (E := fun m i => laws_eqIntS_l0 k m l l i) (len := l.length) hl
    (by
      intro m i h
      show laws_eqIntS_l0 k (m + 1) l l i = _
      rw [laws_eqIntS_l0_eq]; simp (disch := (first | assumption | omega)) only [if_pos, if_neg, if_t, if_f, not_true_eq_false, not_false_eq_true, Bool.false_eq_true, Bool.true_eq_false, eq_self, decide_true, decide_false, Bool.not_true, Bool.not_false, decide_eq_true_eq, Option.bind_some, Bool.not_eq_true', decide_eq_false_iff_not, h])
    (by
      intro m i h0 h1
      show laws_eqIntS_l0 k (m + 1) l l i = laws_eqIntS_l0 k m l l (i + 1)
      rw [laws_eqIntS_l0_eq]
      simp (disch := (first | assumption | omega)) only [if_pos, if_neg, if_t, if_f, not_true_eq_false, not_false_eq_true, Bool.false_eq_true, Bool.true_eq_false, eq_self, decide_true, decide_false, Bool.not_true, Bool.not_false, decide_eq_true_eq, Option.bind_some, Bool.not_eq_true', decide_eq_false_iff_not, wrp, seq_dec, beq_self_eq_true])
    k 0 (by omega) (by omega) (by omega)
  simp (disch := (first | assumption | omega)) only [if_pos, if_neg, if_t, if_f, not_true_eq_false, not_false_eq_true, Bool.false_eq_true, Bool.true_eq_false, eq_self, decide_true, decide_false, Bool.not_true, Bool.not_false, decide_eq_true_eq, Option.bind_some, Bool.not_eq_true', decide_eq_false_iff_not, ]
  exact key
theorem laws_eqBoolS_ev {k : Nat} (hk : 4294967297 ≤ k) (l : List (Bool)) (hl : l.length ≤ 4194304) : asO Bool (evF cfg0 k 21 (l, l)) = some true := by
  obtain ⟨k, rfl, hk'⟩ := exS hk
  rw [laws_eqBoolS_eq]
  have key := eq_gen (E := fun m i => laws_eqBoolS_l0 k m l l i) (len := l.length) hl
    (by
      intro m i h
      show laws_eqBoolS_l0 k (m + 1) l l i = _
      rw [laws_eqBoolS_l0_eq]; simp (disch := (first | assumption | omega)) only [if_pos, if_neg, if_t, if_f, not_true_eq_false, not_false_eq_true, Bool.false_eq_true, Bool.true_eq_false, eq_self, decide_true, decide_false, Bool.not_true, Bool.not_false, decide_eq_true_eq, Option.bind_some, Bool.not_eq_true', decide_eq_false_iff_not, h])
    (by
      intro m i h0 h1
      show laws_eqBoolS_l0 k (m + 1) l l i = laws_eqBoolS_l0 k m l l (i + 1)
      rw [laws_eqBoolS_l0_eq]
      simp (disch := (first | assumption | omega)) only [if_pos, if_neg, if_t, if_f, not_true_eq_false, not_false_eq_true, Bool.false_eq_true, Bool.true_eq_false, eq_self, decide_true, decide_false, Bool.not_true, Bool.not_false, decide_eq_true_eq, Option.bind_some, Bool.not_eq_true', decide_eq_false_iff_not, wrp, seq_dec, beq_self_eq_true])
    k 0 (by omega) (by omega) (by omega)
  simp (disch := (first | assumption | omega)) only [if_pos, if_neg, if_t, if_f, not_true_eq_false, not_false_eq_true, Bool.false_eq_true, Bool.true_eq_false, eq_self, decide_true, decide_false, Bool.not_true, Bool.not_false, decide_eq_true_eq, Option.bind_some, Bool.not_eq_true', decide_eq_false_iff_not, ]
  exact key
theorem laws_eqStringS_ev {k : Nat} (hk : 4294967297 ≤ k) (l : List (ByteArray)) (hl : l.length ≤ 4194304) : asO Bool (evF cfg0 k 22 (l, l)) = some true := by
  obtain ⟨k, rfl, hk'⟩ := exS hk
  rw [laws_eqStringS_eq]
  have key := eq_gen (E := fun m i => laws_eqStringS_l0 k m l l i) (len := l.length) hl
    (by
      intro m i h
      show laws_eqStringS_l0 k (m + 1) l l i = _
      rw [laws_eqStringS_l0_eq]; simp (disch := (first | assumption | omega)) only [if_pos, if_neg, if_t, if_f, not_true_eq_false, not_false_eq_true, Bool.false_eq_true, Bool.true_eq_false, eq_self, decide_true, decide_false, Bool.not_true, Bool.not_false, decide_eq_true_eq, Option.bind_some, Bool.not_eq_true', decide_eq_false_iff_not, h])
    (by
      intro m i h0 h1
      show laws_eqStringS_l0 k (m + 1) l l i = laws_eqStringS_l0 k m l l (i + 1)
      rw [laws_eqStringS_l0_eq]
      simp (disch := (first | assumption | omega)) only [if_pos, if_neg, if_t, if_f, not_true_eq_false, not_false_eq_true, Bool.false_eq_true, Bool.true_eq_false, eq_self, decide_true, decide_false, Bool.not_true, Bool.not_false, decide_eq_true_eq, Option.bind_some, Bool.not_eq_true', decide_eq_false_iff_not, wrp, seq_dec, beq_self_eq_true])
    k 0 (by omega) (by omega) (by omega)
  simp (disch := (first | assumption | omega)) only [if_pos, if_neg, if_t, if_f, not_true_eq_false, not_false_eq_true, Bool.false_eq_true, Bool.true_eq_false, eq_self, decide_true, decide_false, Bool.not_true, Bool.not_false, decide_eq_true_eq, Option.bind_some, Bool.not_eq_true', decide_eq_false_iff_not, ]
  exact key

theorem laws_toItem_ev {k : Nat} (hk : 4294967297 ≤ k) (x : Itm) : asO (Itm) (evF cfg0 k 160 x) = some x := by
  obtain ⟨k, rfl, hk⟩ := exS hk
  obtain ⟨a, b, c⟩ := x
  rw [laws_toItem_eq]
theorem laws_toItemS_ev {k : Nat} (hk : 4294967298 ≤ k) (l : List (Itm)) (hl : l.length ≤ 4194304) : asO (List (Itm)) (evF cfg0 k 94 l) = some l := by
  obtain ⟨k, rfl, hk'⟩ := exS hk
  rw [laws_toItemS_eq]
  have key := to_gen (T := fun m i y => laws_toItemS_l0 k m l i y) (l := l) (df := Ty.dflt tItem) hl
    (by
      intro m i y h
      show laws_toItemS_l0 k (m + 1) l i y = _
      rw [laws_toItemS_l0_eq]; simp (disch := (first | assumption | omega)) only [if_pos, if_neg, if_t, if_f, not_true_eq_false, not_false_eq_true, Bool.false_eq_true, Bool.true_eq_false, eq_self, decide_true, decide_false, Bool.not_true, Bool.not_false, decide_eq_true_eq, Option.bind_some, Bool.not_eq_true', decide_eq_false_iff_not, h])
    (by
      intro m i y h0 h1 h2
      show laws_toItemS_l0 k (m + 1) l i y = laws_toItemS_l0 k m l (i + 1) (y.set i.toNat (l.getD i.toNat (Ty.dflt tItem)))
      rw [laws_toItemS_l0_eq, laws_toItem_ev (by omega)]
      simp (disch := (first | assumption | omega)) only [if_pos, if_neg, if_t, if_f, not_true_eq_false, not_false_eq_true, Bool.false_eq_true, Bool.true_eq_false, eq_self, decide_true, decide_false, Bool.not_true, Bool.not_false, decide_eq_true_eq, Option.bind_some, Bool.not_eq_true', decide_eq_false_iff_not, wrp])
    k 0 (List.replicate l.length (Ty.dflt tItem)) (by omega) (by omega) (by omega) (by rw [List.length_replicate])
  simp (disch := (first | assumption | omega)) only [if_pos, if_neg, if_t, if_f, not_true_eq_false, not_false_eq_true, Bool.false_eq_true, Bool.true_eq_false, eq_self, decide_true, decide_false, Bool.not_true, Bool.not_false, decide_eq_true_eq, Option.bind_some, Bool.not_eq_true', decide_eq_false_iff_not, lim_3, lim_4, lim_9, lim_78, lim_121, lim_128, lim_137, Int.toNat_natCast]
  simpa using key
theorem laws_toOp_ev {k : Nat} (hk : 4294967297 ≤ k) (x : Opp) : asO (Opp) (evF cfg0 k 96 x) = some x := by
  obtain ⟨k, rfl, hk⟩ := exS hk
  obtain ⟨a, b, c⟩ := x
  rw [laws_toOp_eq]
theorem laws_toOpS_ev {k : Nat} (hk : 4294967298 ≤ k) (l : List (Opp)) (hl : l.length ≤ 4194304) : asO (List (Opp)) (evF cfg0 k 33 l) = some l := by
  obtain ⟨k, rfl, hk'⟩ := exS hk
  rw [laws_toOpS_eq]
  have key := to_gen (T := fun m i y => laws_toOpS_l0 k m l i y) (l := l) (df := Ty.dflt tOp) hl
    (by
      intro m i y h
      show laws_toOpS_l0 k (m + 1) l i y = _
      rw [laws_toOpS_l0_eq]; simp (disch := (first | assumption | omega)) only [if_pos, if_neg, if_t, if_f, not_true_eq_false, not_false_eq_true, Bool.false_eq_true, Bool.true_eq_false, eq_self, decide_true, decide_false, Bool.not_true, Bool.not_false, decide_eq_true_eq, Option.bind_some, Bool.not_eq_true', decide_eq_false_iff_not, h])
    (by
      intro m i y h0 h1 h2
      show laws_toOpS_l0 k (m + 1) l i y = laws_toOpS_l0 k m l (i + 1) (y.set i.toNat (l.getD i.toNat (Ty.dflt tOp)))
      rw [laws_toOpS_l0_eq, laws_toOp_ev (by omega)]
      simp (disch := (first | assumption | omega)) only [if_pos, if_neg, if_t, if_f, not_true_eq_false, not_false_eq_true, Bool.false_eq_true, Bool.true_eq_false, eq_self, decide_true, decide_false, Bool.not_true, Bool.not_false, decide_eq_true_eq, Option.bind_some, Bool.not_eq_true', decide_eq_false_iff_not, wrp])
    k 0 (List.replicate l.length (Ty.dflt tOp)) (by omega) (by omega) (by omega) (by rw [List.length_replicate])
  simp (disch := (first | assumption | omega)) only [if_pos, if_neg, if_t, if_f, not_true_eq_false, not_false_eq_true, Bool.false_eq_true, Bool.true_eq_false, eq_self, decide_true, decide_false, Bool.not_true, Bool.not_false, decide_eq_true_eq, Option.bind_some, Bool.not_eq_true', decide_eq_false_iff_not, lim_3, lim_4, lim_9, lim_78, lim_121, lim_128, lim_137, Int.toNat_natCast]
  simpa using key
theorem laws_toIntS_ev {k : Nat} (hk : 4294967297 ≤ k) (l : List (Int)) (hl : l.length ≤ 4194304) : asO (List (Int)) (evF cfg0 k 95 l) = some l := by
  obtain ⟨k, rfl, hk'⟩ := exS hk
  rw [laws_toIntS_eq]
  have key := to_gen (T := fun m i y => laws_toIntS_l0 k m l i y) (l := l) (df := 0) hl
    (by
      intro m i y h
      show laws_toIntS_l0 k (m + 1) l i y = _
      rw [laws_toIntS_l0_eq]; simp (disch := (first | assumption | omega)) only [if_pos, if_neg, if_t, if_f, not_true_eq_false, not_false_eq_true, Bool.false_eq_true, Bool.true_eq_false, eq_self, decide_true, decide_false, Bool.not_true, Bool.not_false, decide_eq_true_eq, Option.bind_some, Bool.not_eq_true', decide_eq_false_iff_not, h])
    (by
      intro m i y h0 h1 h2
      show laws_toIntS_l0 k (m + 1) l i y = laws_toIntS_l0 k m l (i + 1) (y.set i.toNat (l.getD i.toNat (0)))
      rw [laws_toIntS_l0_eq]
      simp (disch := (first | assumption | omega)) only [if_pos, if_neg, if_t, if_f, not_true_eq_false, not_false_eq_true, Bool.false_eq_true, Bool.true_eq_false, eq_self, decide_true, decide_false, Bool.not_true, Bool.not_false, decide_eq_true_eq, Option.bind_some, Bool.not_eq_true', decide_eq_false_iff_not, wrp])
    k 0 (List.replicate l.length (0)) (by omega) (by omega) (by omega) (by rw [List.length_replicate])
  simp (disch := (first | assumption | omega)) only [if_pos, if_neg, if_t, if_f, not_true_eq_false, not_false_eq_true, Bool.false_eq_true, Bool.true_eq_false, eq_self, decide_true, decide_false, Bool.not_true, Bool.not_false, decide_eq_true_eq, Option.bind_some, Bool.not_eq_true', decide_eq_false_iff_not, lim_3, lim_4, lim_9, lim_78, lim_121, lim_128, lim_137, Int.toNat_natCast]
  simpa using key
theorem laws_toStringS_ev {k : Nat} (hk : 4294967297 ≤ k) (l : List (ByteArray)) (hl : l.length ≤ 4194304) : asO (List (ByteArray)) (evF cfg0 k 19 l) = some l := by
  obtain ⟨k, rfl, hk'⟩ := exS hk
  rw [laws_toStringS_eq]
  have key := to_gen (T := fun m i y => laws_toStringS_l0 k m l i y) (l := l) (df := (⟨#[]⟩ : ByteArray)) hl
    (by
      intro m i y h
      show laws_toStringS_l0 k (m + 1) l i y = _
      rw [laws_toStringS_l0_eq]; simp (disch := (first | assumption | omega)) only [if_pos, if_neg, if_t, if_f, not_true_eq_false, not_false_eq_true, Bool.false_eq_true, Bool.true_eq_false, eq_self, decide_true, decide_false, Bool.not_true, Bool.not_false, decide_eq_true_eq, Option.bind_some, Bool.not_eq_true', decide_eq_false_iff_not, h])
    (by
      intro m i y h0 h1 h2
      show laws_toStringS_l0 k (m + 1) l i y = laws_toStringS_l0 k m l (i + 1) (y.set i.toNat (l.getD i.toNat ((⟨#[]⟩ : ByteArray))))
      rw [laws_toStringS_l0_eq]
      simp (disch := (first | assumption | omega)) only [if_pos, if_neg, if_t, if_f, not_true_eq_false, not_false_eq_true, Bool.false_eq_true, Bool.true_eq_false, eq_self, decide_true, decide_false, Bool.not_true, Bool.not_false, decide_eq_true_eq, Option.bind_some, Bool.not_eq_true', decide_eq_false_iff_not, wrp])
    k 0 (List.replicate l.length ((⟨#[]⟩ : ByteArray))) (by omega) (by omega) (by omega) (by rw [List.length_replicate])
  simp (disch := (first | assumption | omega)) only [if_pos, if_neg, if_t, if_f, not_true_eq_false, not_false_eq_true, Bool.false_eq_true, Bool.true_eq_false, eq_self, decide_true, decide_false, Bool.not_true, Bool.not_false, decide_eq_true_eq, Option.bind_some, Bool.not_eq_true', decide_eq_false_iff_not, lim_3, lim_4, lim_9, lim_78, lim_121, lim_128, lim_137, Int.toNat_natCast]
  simpa using key

/-! ### sizes -/
theorem laws_szItem_ev {k : Nat} (hk : 4294967297 ≤ k) (x : Itm) (n : Int) (h0 : 0 ≤ n) (h1 : n ≤ 1048576) (ha : x.1.size ≤ 1048576) (hb : x.2.1.size ≤ 1048576) : ∃ r, asO Int (evF cfg0 k 155 (x, n)) = some r ∧ -1 ≤ r ∧ r ≤ 1048576 := by
  obtain ⟨k, rfl, hk⟩ := exS hk
  obtain ⟨a, b, c⟩ := x
  simp only at ha hb
  rw [laws_szItem_eq, wrp (by omega) (by omega)]
  rw [wrp (x := n - _ - _) (by omega) (by omega)]
  simp only [decide_eq_true_eq]
  split
  · exact ⟨-1, rfl, by omega, by omega⟩
  · split
    · exact ⟨-1, rfl, by omega, by omega⟩
    · exact ⟨_, rfl, by omega, by omega⟩
theorem laws_szItemS_ev {k : Nat} (hk : 4294967298 ≤ k) (l : List (Itm)) (n : Int) (hl : l.length ≤ 4194304) (h0 : 0 ≤ n) (h1 : n ≤ 1048576) (hx : ∀ x ∈ l, x.1.size ≤ 1048576 ∧ x.2.1.size ≤ 1048576) : ∃ r, asO Int (evF cfg0 k 89 (l, n)) = some r ∧ -1 ≤ r ∧ r ≤ 1048576 := by
  obtain ⟨k, rfl, hk'⟩ := exS hk
  rw [laws_szItemS_eq, wrp (by omega) (by omega)]
  simp only [decide_eq_true_eq]
  split
  · exact ⟨-1, rfl, by omega, by omega⟩
  · refine sz_gen (S := fun m n i => laws_szItemS_l0 k m l n i) (len := l.length) hl
      (by
        intro m n i h
        show laws_szItemS_l0 k (m + 1) l n i = _
        rw [laws_szItemS_l0_eq]; simp (disch := (first | assumption | omega)) only [if_pos, if_neg, if_t, if_f, not_true_eq_false, not_false_eq_true, Bool.false_eq_true, Bool.true_eq_false, eq_self, decide_true, decide_false, Bool.not_true, Bool.not_false, decide_eq_true_eq, Option.bind_some, Bool.not_eq_true', decide_eq_false_iff_not, h])
      (by
        intro m n i h0 h1 h2 h3
        show laws_szItemS_l0 k (m + 1) l n i = _ ∨ ∃ r, _ ∧ _ ∧ laws_szItemS_l0 k (m + 1) l n i = laws_szItemS_l0 k m l r (i + 1)
        have hm := hx (l.getD i.toNat (Ty.dflt tItem)) (getD_lt (by omega))
        obtain ⟨r, e, r0, r1⟩ := laws_szItem_ev (k := k) (by omega) (l.getD i.toNat (Ty.dflt tItem)) n h2 h3 hm.1 hm.2
        rw [laws_szItemS_l0_eq, e]
        by_cases hr : r < 0
        · left; simp (disch := (first | assumption | omega)) only [if_pos, if_neg, if_t, if_f, not_true_eq_false, not_false_eq_true, Bool.false_eq_true, Bool.true_eq_false, eq_self, decide_true, decide_false, Bool.not_true, Bool.not_false, decide_eq_true_eq, Option.bind_some, Bool.not_eq_true', decide_eq_false_iff_not, hr]
        · right; refine ⟨r, by omega, r1, ?_⟩; simp (disch := (first | assumption | omega)) only [if_pos, if_neg, if_t, if_f, not_true_eq_false, not_false_eq_true, Bool.false_eq_true, Bool.true_eq_false, eq_self, decide_true, decide_false, Bool.not_true, Bool.not_false, decide_eq_true_eq, Option.bind_some, Bool.not_eq_true', decide_eq_false_iff_not, hr, wrp])
      k _ 0 (by omega) (by omega) (by omega) (by omega) (by omega)
theorem laws_szOp_ev {k : Nat} (hk : 4294967297 ≤ k) (x : Opp) (n : Int) (h0 : 0 ≤ n) (h1 : n ≤ 1048576) (ha : x.2.1.size ≤ 1048576) (hb : x.2.2.size ≤ 1048576) : ∃ r, asO Int (evF cfg0 k 91 (x, n)) = some r ∧ -1 ≤ r ∧ r ≤ 1048576 := by
  obtain ⟨k, rfl, hk⟩ := exS hk
  obtain ⟨a, b, c⟩ := x
  simp only at ha hb
  rw [laws_szOp_eq, wrp (by omega) (by omega)]
  rw [wrp (x := n - _ - _) (by omega) (by omega)]
  simp only [decide_eq_true_eq]
  split
  · exact ⟨-1, rfl, by omega, by omega⟩
  · split
    · exact ⟨-1, rfl, by omega, by omega⟩
    · exact ⟨_, rfl, by omega, by omega⟩
theorem laws_szOpS_ev {k : Nat} (hk : 4294967298 ≤ k) (l : List (Opp)) (n : Int) (hl : l.length ≤ 4194304) (h0 : 0 ≤ n) (h1 : n ≤ 1048576) (hx : ∀ x ∈ l, x.2.1.size ≤ 1048576 ∧ x.2.2.size ≤ 1048576) : ∃ r, asO Int (evF cfg0 k 30 (l, n)) = some r ∧ -1 ≤ r ∧ r ≤ 1048576 := by
  obtain ⟨k, rfl, hk'⟩ := exS hk
  rw [laws_szOpS_eq, wrp (by omega) (by omega)]
  simp only [decide_eq_true_eq]
  split
  · exact ⟨-1, rfl, by omega, by omega⟩
  · refine sz_gen (S := fun m n i => laws_szOpS_l0 k m l n i) (len := l.length) hl
      (by
        intro m n i h
        show laws_szOpS_l0 k (m + 1) l n i = _
        rw [laws_szOpS_l0_eq]; simp (disch := (first | assumption | omega)) only [if_pos, if_neg, if_t, if_f, not_true_eq_false, not_false_eq_true, Bool.false_eq_true, Bool.true_eq_false, eq_self, decide_true, decide_false, Bool.not_true, Bool.not_false, decide_eq_true_eq, Option.bind_some, Bool.not_eq_true', decide_eq_false_iff_not, h])
      (by
        intro m n i h0 h1 h2 h3
        show laws_szOpS_l0 k (m + 1) l n i = _ ∨ ∃ r, _ ∧ _ ∧ laws_szOpS_l0 k (m + 1) l n i = laws_szOpS_l0 k m l r (i + 1)
        have hm := hx (l.getD i.toNat (Ty.dflt tOp)) (getD_lt (by omega))
        obtain ⟨r, e, r0, r1⟩ := laws_szOp_ev (k := k) (by omega) (l.getD i.toNat (Ty.dflt tOp)) n h2 h3 hm.1 hm.2
        rw [laws_szOpS_l0_eq, e]
        by_cases hr : r < 0
        · left; simp (disch := (first | assumption | omega)) only [if_pos, if_neg, if_t, if_f, not_true_eq_false, not_false_eq_true, Bool.false_eq_true, Bool.true_eq_false, eq_self, decide_true, decide_false, Bool.not_true, Bool.not_false, decide_eq_true_eq, Option.bind_some, Bool.not_eq_true', decide_eq_false_iff_not, hr]
        · right; refine ⟨r, by omega, r1, ?_⟩; simp (disch := (first | assumption | omega)) only [if_pos, if_neg, if_t, if_f, not_true_eq_false, not_false_eq_true, Bool.false_eq_true, Bool.true_eq_false, eq_self, decide_true, decide_false, Bool.not_true, Bool.not_false, decide_eq_true_eq, Option.bind_some, Bool.not_eq_true', decide_eq_false_iff_not, hr, wrp])
      k _ 0 (by omega) (by omega) (by omega) (by omega) (by omega)
theorem laws_szIntS_ev {k : Nat} (hk : 4294967297 ≤ k) (l : List Int) (n : Int) (hl : l.length ≤ 4194304) (h0 : 0 ≤ n) (h1 : n ≤ 1048576) : ∃ r, asO Int (evF cfg0 k 90 (l, n)) = some r ∧ -1 ≤ r ∧ r ≤ 1048576 := by
  obtain ⟨k, rfl, hk'⟩ := exS hk
  rw [laws_szIntS_eq, wrp (by omega) (by omega)]
  simp only [decide_eq_true_eq]
  split
  · exact ⟨-1, rfl, by omega, by omega⟩
  · exact ⟨_, rfl, by omega, by omega⟩
theorem laws_szStringS_ev {k : Nat} (hk : 4294967297 ≤ k) (l : List ByteArray) (n : Int) (hl : l.length ≤ 4194304) (h0 : 0 ≤ n) (h1 : n ≤ 1048576) (hx : ∀ x ∈ l, x.size ≤ 1048576) : ∃ r, asO Int (evF cfg0 k 16 (l, n)) = some r ∧ -1 ≤ r ∧ r ≤ 1048576 := by
  obtain ⟨k, rfl, hk'⟩ := exS hk
  rw [laws_szStringS_eq, wrp (by omega) (by omega)]
  simp only [decide_eq_true_eq]
  split
  · exact ⟨-1, rfl, by omega, by omega⟩
  · refine sz_gen (S := fun m n i => laws_szStringS_l0 k m l n i) (len := l.length) hl
      (by
        intro m n i h
        show laws_szStringS_l0 k (m + 1) l n i = _
        rw [laws_szStringS_l0_eq]; simp (disch := (first | assumption | omega)) only [if_pos, if_neg, if_t, if_f, not_true_eq_false, not_false_eq_true, Bool.false_eq_true, Bool.true_eq_false, eq_self, decide_true, decide_false, Bool.not_true, Bool.not_false, decide_eq_true_eq, Option.bind_some, Bool.not_eq_true', decide_eq_false_iff_not, h])
      (by
        intro m n i h0 h1 h2 h3
        show laws_szStringS_l0 k (m + 1) l n i = _ ∨ ∃ r, _ ∧ _ ∧ laws_szStringS_l0 k (m + 1) l n i = laws_szStringS_l0 k m l r (i + 1)
        have hm := hx (l.getD i.toNat (⟨#[]⟩ : ByteArray)) (getD_lt (by omega))
        have e : IntKind.wrap .i64 (n - ((l.getD i.toNat (⟨#[]⟩ : ByteArray)).size : Int)) = n - ((l.getD i.toNat (⟨#[]⟩ : ByteArray)).size : Int) := wrp (by omega) (by omega)
        rw [laws_szStringS_l0_eq, e]
        by_cases hr : n - ((l.getD i.toNat (⟨#[]⟩ : ByteArray)).size : Int) < 0
        · left; simp (disch := (first | assumption | omega)) only [if_pos, if_neg, if_t, if_f, not_true_eq_false, not_false_eq_true, Bool.false_eq_true, Bool.true_eq_false, eq_self, decide_true, decide_false, Bool.not_true, Bool.not_false, decide_eq_true_eq, Option.bind_some, Bool.not_eq_true', decide_eq_false_iff_not, hr]
        · right; refine ⟨n - ((l.getD i.toNat (⟨#[]⟩ : ByteArray)).size : Int), by omega, by omega, ?_⟩
          simp (disch := (first | assumption | omega)) only [if_pos, if_neg, if_t, if_f, not_true_eq_false, not_false_eq_true, Bool.false_eq_true, Bool.true_eq_false, eq_self, decide_true, decide_false, Bool.not_true, Bool.not_false, decide_eq_true_eq, Option.bind_some, Bool.not_eq_true', decide_eq_false_iff_not, hr, wrp])
      k _ 0 (by omega) (by omega) (by omega) (by omega) (by omega)
end Go.Proofs.Ytgnnljpdcafdkaa.Ev

/- A right cache. -/
namespace Go.Proofs.Ytgnnljpdcafdkaa.Ev
open Go
set_option linter.unusedVariables false

theorem spec_l03Has_l0_ev {k : Nat} (l : List Int) (h : Int) (hl : l.length ≤ 4194304) : ∀ (m : Nat) (i : Int), 0 ≤ i → i ≤ l.length → l.length < i + m → spec_l03Has_l0 k m l h i = some (decide (h ∈ l.drop i.toNat)) := by
  intro m
  induction m with
  | zero => intro i h0 h1 h2; omega
  | succ m ih =>
    intro i h0 h1 h2
    rw [spec_l03Has_l0_eq]
    by_cases h3 : i < (l.length : Int)
    · rw [dropC (d := 0) h0 h3]
      by_cases h4 : l.getD i.toNat 0 = h
      · simp (disch := (first | assumption | omega)) only [if_pos, if_neg, if_t, if_f, not_true_eq_false, not_false_eq_true, Bool.false_eq_true, Bool.true_eq_false, eq_self, decide_true, decide_false, Bool.not_true, Bool.not_false, decide_eq_true_eq, Option.bind_some, Bool.not_eq_true', decide_eq_false_iff_not, h4]; simp
      · have h5 : ¬ h = l.getD i.toNat 0 := fun e => h4 e.symm
        simp (disch := (first | assumption | omega)) only [if_pos, if_neg, if_t, if_f, not_true_eq_false, not_false_eq_true, Bool.false_eq_true, Bool.true_eq_false, eq_self, decide_true, decide_false, Bool.not_true, Bool.not_false, decide_eq_true_eq, Option.bind_some, Bool.not_eq_true', decide_eq_false_iff_not, h4, wrp]
        rw [ih (i + 1) (by omega) (by omega) (by omega)]
        simp only [List.mem_cons, h5, false_or]
    · rw [dropN h0 h3]
      simp (disch := (first | assumption | omega)) only [if_pos, if_neg, if_t, if_f, not_true_eq_false, not_false_eq_true, Bool.false_eq_true, Bool.true_eq_false, eq_self, decide_true, decide_false, Bool.not_true, Bool.not_false, decide_eq_true_eq, Option.bind_some, Bool.not_eq_true', decide_eq_false_iff_not, h3]; simp
theorem spec_l03Has_ev {k : Nat} (hk : 4294967297 ≤ k) (l : List Int) (h : Int) (hl : l.length ≤ 4194304) : asO Bool (evF cfg0 k 135 (l, h)) = some (decide (h ∈ l)) := by
  obtain ⟨k, rfl, hk⟩ := exS hk
  rw [spec_l03Has_eq]
  simpa using spec_l03Has_l0_ev (k := k) l h hl k 0 (by omega) (by omega) (by omega)

def ixF (h : Int) : List Int → Int → Int
  | [], _ => -1
  | x :: r, i => if x = h then i else ixF h r (i + 1)
theorem ixF_ge (h : Int) : ∀ (l : List Int) (i : Int), 0 ≤ i → (h ∈ l → 0 ≤ ixF h l i) ∧ (h ∉ l → ixF h l i = -1)
  | [], i, hi => by simp [ixF]
  | x :: r, i, hi => by
    have := ixF_ge h r (i + 1) (by omega)
    unfold ixF
    by_cases e : x = h
    · simp [e, hi]
    · have e' : ¬ h = x := fun q => e q.symm
      simp only [if_neg e, List.mem_cons, e', false_or]; exact this
theorem slices_Index__int_int_l0_ev {k : Nat} (l : List Int) (h : Int) (hl : l.length ≤ 4194304) : ∀ (m : Nat) (i : Int), 0 ≤ i → i ≤ l.length → l.length < i + m → slices_Index__int_int_l0 k m l h i = some (ixF h (l.drop i.toNat) i) := by
  intro m
  induction m with
  | zero => intro i h0 h1 h2; omega
  | succ m ih =>
    intro i h0 h1 h2
    rw [slices_Index__int_int_l0_eq]
    by_cases h3 : i < (l.length : Int)
    · rw [dropC (d := 0) h0 h3]
      by_cases h4 : l.getD i.toNat 0 = h
      · simp (disch := (first | assumption | omega)) only [if_pos, if_neg, if_t, if_f, not_true_eq_false, not_false_eq_true, Bool.false_eq_true, Bool.true_eq_false, eq_self, decide_true, decide_false, Bool.not_true, Bool.not_false, decide_eq_true_eq, Option.bind_some, Bool.not_eq_true', decide_eq_false_iff_not, h4, ixF]
      · have h5 : ¬ h = l.getD i.toNat 0 := fun e => h4 e.symm
        simp (disch := (first | assumption | omega)) only [if_pos, if_neg, if_t, if_f, not_true_eq_false, not_false_eq_true, Bool.false_eq_true, Bool.true_eq_false, eq_self, decide_true, decide_false, Bool.not_true, Bool.not_false, decide_eq_true_eq, Option.bind_some, Bool.not_eq_true', decide_eq_false_iff_not, h4, h5, wrp, ixF]
        exact ih (i + 1) (by omega) (by omega) (by omega)
    · rw [dropN h0 h3]
      simp (disch := (first | assumption | omega)) only [if_pos, if_neg, if_t, if_f, not_true_eq_false, not_false_eq_true, Bool.false_eq_true, Bool.true_eq_false, eq_self, decide_true, decide_false, Bool.not_true, Bool.not_false, decide_eq_true_eq, Option.bind_some, Bool.not_eq_true', decide_eq_false_iff_not, h3, ixF]
theorem slices_Index__int_int_ev {k : Nat} (hk : 4294967297 ≤ k) (l : List Int) (h : Int) (hl : l.length ≤ 4194304) : asO Int (evF cfg0 k 177 (l, h)) = some (ixF h l 0) := by
  obtain ⟨k, rfl, hk⟩ := exS hk
  rw [slices_Index__int_int_eq]
  simpa using slices_Index__int_int_l0_ev (k := k) l h hl k 0 (by omega) (by omega) (by omega)
theorem slices_Contains__int_int_ev {k : Nat} (hk : 4294967298 ≤ k) (l : List Int) (h : Int) (hl : l.length ≤ 4194304) : asO Bool (evF cfg0 k 140 (l, h)) = some (decide (h ∈ l)) := by
  obtain ⟨k, rfl, hk⟩ := exS hk
  rw [slices_Contains__int_int_eq, slices_Index__int_int_ev (by omega) l h hl]
  have := ixF_ge h l 0 (by omega)
  by_cases e : h ∈ l
  · have := this.1 e
    simp [e, this]
  · have := this.2 e
    simp [e, this]

/-! ### the items of a cache -/
def itF (all : List Itm) : List Itm → Int → Bool
  | [], _ => true
  | x :: r, i => IOk x && decide (atF x.1 all 0 = i) && itF all r (i + 1)
def ghF (all : List Int) : List Int → Int → Bool
  | [], _ => true
  | g :: r, i => numF g && !decide (g ∈ all.take i.toNat) && ghF all r (i + 1)
def ghosts (c m : Int) : Int := if c - m < 1 then 1 else c - m
def TOk (t : Thr) : Bool :=
  (decide (1 ≤ t.1) && decide (t.1 ≤ 60)) && (decide (1 ≤ t.2.1) && decide (t.2.1 ≤ t.1)) && decide ((t.2.2.2.2.length : Int) ≤ ghosts t.1 t.2.1) &&
    decide (((t.2.2.1.length + t.2.2.2.1.length : Nat) : Int) ≤ t.1) && ghF t.2.2.2.2 t.2.2.2.2 0 && itF (t.2.2.1 ++ t.2.2.2.1) (t.2.2.1 ++ t.2.2.2.1) 0
def Sm (t : Thr) : Prop := t.2.2.1.length ≤ 1048576 ∧ t.2.2.2.1.length ≤ 1048576 ∧ t.2.2.2.2.length ≤ 1048576

theorem spec_l10Ghosts_ev {k : Nat} (hk : 4294967297 ≤ k) (t : Thr) (h1 : -1000 ≤ t.1) (h2 : t.1 ≤ 1000) (h3 : -1000 ≤ t.2.1) (h4 : t.2.1 ≤ 1000) : asO Int (evF cfg0 k 131 t) = some (ghosts t.1 t.2.1) := by
  obtain ⟨k, rfl, hk⟩ := exS hk
  obtain ⟨c, m, s, a, g⟩ := t
  simp only at h1 h2 h3 h4
  rw [spec_l10Ghosts_eq, ghosts]
  by_cases h : c - m < 1
  · simp (disch := (first | assumption | omega)) only [if_pos, if_neg, if_t, if_f, not_true_eq_false, not_false_eq_true, Bool.false_eq_true, Bool.true_eq_false, eq_self, decide_true, decide_false, Bool.not_true, Bool.not_false, decide_eq_true_eq, Option.bind_some, Bool.not_eq_true', decide_eq_false_iff_not, h, wrp]
  · simp (disch := (first | assumption | omega)) only [if_pos, if_neg, if_t, if_f, not_true_eq_false, not_false_eq_true, Bool.false_eq_true, Bool.true_eq_false, eq_self, decide_true, decide_false, Bool.not_true, Bool.not_false, decide_eq_true_eq, Option.bind_some, Bool.not_eq_true', decide_eq_false_iff_not, h, wrp]
theorem impl_Three_ghosts_ev {k : Nat} (hk : 4294967297 ≤ k) (t : Thr) (h1 : -1000 ≤ t.1) (h2 : t.1 ≤ 1000) (h3 : -1000 ≤ t.2.1) (h4 : t.2.1 ≤ 1000) : asO Int (evF cfg0 k 138 t) = some (ghosts t.1 t.2.1) := by
  obtain ⟨k, rfl, hk⟩ := exS hk
  obtain ⟨c, m, s, a, g⟩ := t
  simp only at h1 h2 h3 h4
  rw [impl_Three_ghosts_eq, ghosts]
  by_cases h : c - m < 1
  · simp (disch := (first | assumption | omega)) only [if_pos, if_neg, if_t, if_f, not_true_eq_false, not_false_eq_true, Bool.false_eq_true, Bool.true_eq_false, eq_self, decide_true, decide_false, Bool.not_true, Bool.not_false, decide_eq_true_eq, Option.bind_some, Bool.not_eq_true', decide_eq_false_iff_not, h, wrp]
  · by_cases h' : c - m > 1
    · simp (disch := (first | assumption | omega)) only [if_pos, if_neg, if_t, if_f, not_true_eq_false, not_false_eq_true, Bool.false_eq_true, Bool.true_eq_false, eq_self, decide_true, decide_false, Bool.not_true, Bool.not_false, decide_eq_true_eq, Option.bind_some, Bool.not_eq_true', decide_eq_false_iff_not, h, h', wrp]
    · have e : c - m = 1 := by omega
      simp (disch := (first | assumption | omega)) only [if_pos, if_neg, if_t, if_f, not_true_eq_false, not_false_eq_true, Bool.false_eq_true, Bool.true_eq_false, eq_self, decide_true, decide_false, Bool.not_true, Bool.not_false, decide_eq_true_eq, Option.bind_some, Bool.not_eq_true', decide_eq_false_iff_not, h, h', wrp]
      rw [e]

theorem spec_ThreeOk_l1_ev {k : Nat} (hk : 4294967299 ≤ k + 1) (c mo : Int) (s a : List Itm) (g : List Int) (hl : g.length ≤ 1048576) : ∀ (m : Nat) (i : Int), 0 ≤ i → i ≤ g.length → g.length < i + m → spec_ThreeOk_l1 k m c mo s a g i = some (ghF g (g.drop i.toNat) i) := by
  intro m
  induction m with
  | zero => intro i h0 h1 h2; omega
  | succ m ih =>
    intro i h0 h1 h2
    rw [spec_ThreeOk_l1_eq]
    by_cases h3 : i < (g.length : Int)
    · have h8 : (g.take i.toNat).length ≤ 4194304 := by rw [List.length_take]; omega
      rw [dropC (d := 0) h0 h3, spec_l01Num_ev (by omega), spec_l03Has_ev (by omega) _ _ h8]
      by_cases h4 : numF (g.getD i.toNat 0) = true
      · by_cases h5 : g.getD i.toNat 0 ∈ g.take i.toNat
        · simp (disch := (first | assumption | omega)) only [if_pos, if_neg, if_t, if_f, not_true_eq_false, not_false_eq_true, Bool.false_eq_true, Bool.true_eq_false, eq_self, decide_true, decide_false, Bool.not_true, Bool.not_false, decide_eq_true_eq, Option.bind_some, Bool.not_eq_true', decide_eq_false_iff_not, ghF, h4, h5, Bool.and_false, Bool.false_and]
        · simp (disch := (first | assumption | omega)) only [if_pos, if_neg, if_t, if_f, not_true_eq_false, not_false_eq_true, Bool.false_eq_true, Bool.true_eq_false, eq_self, decide_true, decide_false, Bool.not_true, Bool.not_false, decide_eq_true_eq, Option.bind_some, Bool.not_eq_true', decide_eq_false_iff_not, ghF, h4, h5, Bool.true_and, wrp]
          exact ih (i + 1) (by omega) (by omega) (by omega)
      · simp only [Bool.not_eq_true] at h4
        simp (disch := (first | assumption | omega)) only [if_pos, if_neg, if_t, if_f, not_true_eq_false, not_false_eq_true, Bool.false_eq_true, Bool.true_eq_false, eq_self, decide_true, decide_false, Bool.not_true, Bool.not_false, decide_eq_true_eq, Option.bind_some, Bool.not_eq_true', decide_eq_false_iff_not, ghF, h4, Bool.false_and]
    · rw [dropN h0 h3]
      simp (disch := (first | assumption | omega)) only [if_pos, if_neg, if_t, if_f, not_true_eq_false, not_false_eq_true, Bool.false_eq_true, Bool.true_eq_false, eq_self, decide_true, decide_false, Bool.not_true, Bool.not_false, decide_eq_true_eq, Option.bind_some, Bool.not_eq_true', decide_eq_false_iff_not, ghF, h3]
theorem spec_ThreeOk_l0_ev {k : Nat} (hk : 4294967299 ≤ k + 1) (c mo : Int) (s a : List Itm) (g : List Int) (hl : g.length ≤ 1048576) (hs : (s ++ a).length ≤ 4194304) : ∀ (m : Nat) (i : Int), 0 ≤ i → i ≤ (s ++ a).length → (s ++ a).length < i + m → spec_ThreeOk_l0 k m c mo s a g i = some (itF (s ++ a) ((s ++ a).drop i.toNat) i && ghF g g 0) := by
  intro m
  induction m with
  | zero => intro i h0 h1 h2; omega
  | succ m ih =>
    intro i h0 h1 h2
    rw [spec_ThreeOk_l0_eq, List.nil_append]
    by_cases h3 : i < ((s ++ a).length : Int)
    · rw [dropC (d := Ty.dflt tItem) h0 h3, spec_ItemOk_ev (by omega), spec_l10At_ev (by omega) _ _ hs]
      by_cases h4 : IOk ((s ++ a).getD i.toNat (Ty.dflt tItem)) = true
      · by_cases h5 : atF ((s ++ a).getD i.toNat (Ty.dflt tItem)).1 (s ++ a) 0 = i
        · simp (disch := (first | assumption | omega)) only [if_pos, if_neg, if_t, if_f, not_true_eq_false, not_false_eq_true, Bool.false_eq_true, Bool.true_eq_false, eq_self, decide_true, decide_false, Bool.not_true, Bool.not_false, decide_eq_true_eq, Option.bind_some, Bool.not_eq_true', decide_eq_false_iff_not, itF, h4, h5, Bool.true_and, wrp]
          exact ih (i + 1) (by omega) (by omega) (by omega)
        · simp (disch := (first | assumption | omega)) only [if_pos, if_neg, if_t, if_f, not_true_eq_false, not_false_eq_true, Bool.false_eq_true, Bool.true_eq_false, eq_self, decide_true, decide_false, Bool.not_true, Bool.not_false, decide_eq_true_eq, Option.bind_some, Bool.not_eq_true', decide_eq_false_iff_not, itF, h4, h5, Bool.and_false, Bool.false_and]
      · simp only [Bool.not_eq_true] at h4
        simp (disch := (first | assumption | omega)) only [if_pos, if_neg, if_t, if_f, not_true_eq_false, not_false_eq_true, Bool.false_eq_true, Bool.true_eq_false, eq_self, decide_true, decide_false, Bool.not_true, Bool.not_false, decide_eq_true_eq, Option.bind_some, Bool.not_eq_true', decide_eq_false_iff_not, itF, h4, Bool.false_and]
    · rw [dropN h0 h3]
      simp (disch := (first | assumption | omega)) only [if_pos, if_neg, if_t, if_f, not_true_eq_false, not_false_eq_true, Bool.false_eq_true, Bool.true_eq_false, eq_self, decide_true, decide_false, Bool.not_true, Bool.not_false, decide_eq_true_eq, Option.bind_some, Bool.not_eq_true', decide_eq_false_iff_not, itF, h3, Bool.true_and]
      exact spec_ThreeOk_l1_ev hk c mo s a g hl k 0 (by omega) (by omega) (by omega)
theorem spec_ThreeOk_ev {k : Nat} (hk : 4294967299 ≤ k) (t : Thr) (hs : Sm t) : asO Bool (evF cfg0 k 69 t) = some (TOk t) := by
  obtain ⟨k, rfl, hk'⟩ := exS hk
  obtain ⟨c, m, s, a, g⟩ := t
  obtain ⟨hs1, hs2, hs3⟩ := hs
  simp only at hs1 hs2 hs3
  unfold TOk
  rw [spec_ThreeOk_eq, spec_l01In_ev (by omega), spec_l01In_ev (by omega)]
  simp only [Option.bind_some]
  by_cases h1 : (decide (1 ≤ c) && decide (c ≤ 60)) = true
  · by_cases h2 : (decide (1 ≤ m) && decide (m ≤ c)) = true
    · have h1' := h1; have h2' := h2
      simp only [Bool.and_eq_true, decide_eq_true_eq] at h1' h2'
      rw [spec_l10Ghosts_ev (by omega) (c, m, s, a, g) (by simp only; omega) (by simp only; omega) (by simp only; omega) (by simp only; omega)]
      rw [h1, h2, wrp (by omega) (by omega)]
      by_cases h3 : c < (s.length : Int) + (a.length : Int)
      · have h3' : ¬ ((s.length + a.length : Nat) : Int) ≤ c := by omega
        rw [decide_eq_false h3']; simp [h3]
      · have h3' : ((s.length + a.length : Nat) : Int) ≤ c := by omega
        by_cases h4 : ghosts c m < (g.length : Int)
        · have h4' : ¬ (g.length : Int) ≤ ghosts c m := by omega
          simp [h3, h4, h4']
        · have h4' : (g.length : Int) ≤ ghosts c m := by omega
          have h5 : (s ++ a).length ≤ 4194304 := by rw [List.length_append]; omega
          have h6 := spec_ThreeOk_l0_ev (k := k) hk c m s a g hs3 h5 k 0 (by omega) (by omega) (by omega)
          simp (disch := (first | assumption | omega)) only [if_pos, if_neg, if_t, if_f, not_true_eq_false, not_false_eq_true, Bool.false_eq_true, Bool.true_eq_false, eq_self, decide_true, decide_false, Bool.not_true, Bool.not_false, decide_eq_true_eq, Option.bind_some, Bool.not_eq_true', decide_eq_false_iff_not, h3, h4, lim_3, lim_4, lim_9, lim_78, lim_121, lim_128, lim_137, List.nil_append, List.length_nil]
          rw [h6]
          rw [decide_eq_true h3', decide_eq_true h4']; simp [Bool.and_comm]
    · simp only [Bool.not_eq_true] at h2
      simp [h1, h2]
  · simp only [Bool.not_eq_true] at h1
    simp [h1]

theorem impl_areItems_l0_ev {k : Nat} (hk : 4294967300 ≤ k + 1) (l : List Itm) (hl : l.length ≤ 4194304) : ∀ (m : Nat) (i : Int), 0 ≤ i → i ≤ l.length → l.length < i + m → impl_areItems_l0 k m l i = some (itF l (l.drop i.toNat) i) := by
  intro m
  induction m with
  | zero => intro i h0 h1 h2; omega
  | succ m ih =>
    intro i h0 h1 h2
    rw [impl_areItems_l0_eq]
    by_cases h3 : i < (l.length : Int)
    · rw [dropC (d := Ty.dflt tItem) h0 h3, impl_ItemOk_ev (by omega), impl_itemAt_ev (by omega) _ _ hl]
      by_cases h4 : IOk (l.getD i.toNat (Ty.dflt tItem)) = true
      · by_cases h5 : atF (l.getD i.toNat (Ty.dflt tItem)).1 l 0 = i
        · simp (disch := (first | assumption | omega)) only [if_pos, if_neg, if_t, if_f, not_true_eq_false, not_false_eq_true, Bool.false_eq_true, Bool.true_eq_false, eq_self, decide_true, decide_false, Bool.not_true, Bool.not_false, decide_eq_true_eq, Option.bind_some, Bool.not_eq_true', decide_eq_false_iff_not, itF, h4, h5, Bool.true_and, wrp]
          exact ih (i + 1) (by omega) (by omega) (by omega)
        · simp (disch := (first | assumption | omega)) only [if_pos, if_neg, if_t, if_f, not_true_eq_false, not_false_eq_true, Bool.false_eq_true, Bool.true_eq_false, eq_self, decide_true, decide_false, Bool.not_true, Bool.not_false, decide_eq_true_eq, Option.bind_some, Bool.not_eq_true', decide_eq_false_iff_not, itF, h4, h5, Bool.and_false, Bool.false_and]
      · simp only [Bool.not_eq_true] at h4
        simp (disch := (first | assumption | omega)) only [if_pos, if_neg, if_t, if_f, not_true_eq_false, not_false_eq_true, Bool.false_eq_true, Bool.true_eq_false, eq_self, decide_true, decide_false, Bool.not_true, Bool.not_false, decide_eq_true_eq, Option.bind_some, Bool.not_eq_true', decide_eq_false_iff_not, itF, h4, Bool.false_and]
    · rw [dropN h0 h3]
      simp (disch := (first | assumption | omega)) only [if_pos, if_neg, if_t, if_f, not_true_eq_false, not_false_eq_true, Bool.false_eq_true, Bool.true_eq_false, eq_self, decide_true, decide_false, Bool.not_true, Bool.not_false, decide_eq_true_eq, Option.bind_some, Bool.not_eq_true', decide_eq_false_iff_not, itF, h3]
theorem impl_areItems_ev {k : Nat} (hk : 4294967300 ≤ k) (l : List Itm) (hl : l.length ≤ 4194304) : asO Bool (evF cfg0 k 142 l) = some (itF l l 0) := by
  obtain ⟨k, rfl, hk'⟩ := exS hk
  rw [impl_areItems_eq]
  simpa using impl_areItems_l0_ev (k := k) hk l hl k 0 (by omega) (by omega) (by omega)
theorem impl_copyItems_ev {k : Nat} (hk : 4294967297 ≤ k) (l : List Itm) (hl : l.length ≤ 4194304) : asO (List Itm) (evF cfg0 k 141 l) = some l := by
  obtain ⟨k, rfl, hk⟩ := exS hk
  rw [impl_copyItems_eq]
  simp (disch := (first | assumption | omega)) only [if_pos, if_neg, if_t, if_f, not_true_eq_false, not_false_eq_true, Bool.false_eq_true, Bool.true_eq_false, eq_self, decide_true, decide_false, Bool.not_true, Bool.not_false, decide_eq_true_eq, Option.bind_some, Bool.not_eq_true', decide_eq_false_iff_not, lim_3, lim_4, lim_9, lim_78, lim_121, lim_128, lim_137]
theorem impl_ThreeOk_l0_ev {k : Nat} (hk : 4294967301 ≤ k + 1) (c mo : Int) (s a : List Itm) (g : List Int) (hl : g.length ≤ 1048576) (hs : s.length ≤ 1048576) (ha : a.length ≤ 1048576) : ∀ (m : Nat) (i : Int), 0 ≤ i → i ≤ g.length → g.length < i + m → impl_ThreeOk_l0 k m c mo s a g i = some (ghF g (g.drop i.toNat) i && (decide (((s.length + a.length : Nat) : Int) ≤ c) && itF (s ++ a) (s ++ a) 0)) := by
  intro m
  induction m with
  | zero => intro i h0 h1 h2; omega
  | succ m ih =>
    intro i h0 h1 h2
    rw [impl_ThreeOk_l0_eq]
    by_cases h3 : i < (g.length : Int)
    · have h8 : (g.take i.toNat).length ≤ 4194304 := by rw [List.length_take]; omega
      rw [dropC (d := 0) h0 h3, impl_isNum_ev (by omega), slices_Contains__int_int_ev (by omega) _ _ h8]
      by_cases h4 : numF (g.getD i.toNat 0) = true
      · by_cases h5 : g.getD i.toNat 0 ∈ g.take i.toNat
        · simp (disch := (first | assumption | omega)) only [if_pos, if_neg, if_t, if_f, not_true_eq_false, not_false_eq_true, Bool.false_eq_true, Bool.true_eq_false, eq_self, decide_true, decide_false, Bool.not_true, Bool.not_false, decide_eq_true_eq, Option.bind_some, Bool.not_eq_true', decide_eq_false_iff_not, ghF, h4, h5, Bool.and_false, Bool.false_and]
        · simp (disch := (first | assumption | omega)) only [if_pos, if_neg, if_t, if_f, not_true_eq_false, not_false_eq_true, Bool.false_eq_true, Bool.true_eq_false, eq_self, decide_true, decide_false, Bool.not_true, Bool.not_false, decide_eq_true_eq, Option.bind_some, Bool.not_eq_true', decide_eq_false_iff_not, ghF, h4, h5, Bool.true_and, wrp]
          exact ih (i + 1) (by omega) (by omega) (by omega)
      · simp only [Bool.not_eq_true] at h4
        simp (disch := (first | assumption | omega)) only [if_pos, if_neg, if_t, if_f, not_true_eq_false, not_false_eq_true, Bool.false_eq_true, Bool.true_eq_false, eq_self, decide_true, decide_false, Bool.not_true, Bool.not_false, decide_eq_true_eq, Option.bind_some, Bool.not_eq_true', decide_eq_false_iff_not, ghF, h4, Bool.false_and]
    · have h5 : (s ++ a).length ≤ 4194304 := by rw [List.length_append]; omega
      rw [dropN h0 h3, impl_copyItems_ev (by omega) s (by omega)]
      simp (disch := (first | assumption | omega)) only [if_pos, if_neg, if_t, if_f, not_true_eq_false, not_false_eq_true, Bool.false_eq_true, Bool.true_eq_false, eq_self, decide_true, decide_false, Bool.not_true, Bool.not_false, decide_eq_true_eq, Option.bind_some, Bool.not_eq_true', decide_eq_false_iff_not, ghF, h3, lim_3, lim_4, lim_9, lim_78, lim_121, lim_128, lim_137, Bool.true_and, impl_areItems_ev]
      rw [List.length_append]
      by_cases h6 : ((s.length + a.length : Nat) : Int) ≤ c
      · simp only [h6, if_true, decide_true, Bool.true_and]
      · simp (disch := (first | assumption | omega)) only [if_pos, if_neg, if_t, if_f, not_true_eq_false, not_false_eq_true, Bool.false_eq_true, Bool.true_eq_false, eq_self, decide_true, decide_false, Bool.not_true, Bool.not_false, decide_eq_true_eq, Option.bind_some, Bool.not_eq_true', decide_eq_false_iff_not, h6, Bool.false_and]
theorem impl_ThreeOk_ev {k : Nat} (hk : 4294967301 ≤ k) (t : Thr) (hs : Sm t) : asO Bool (evF cfg0 k 73 t) = some (TOk t) := by
  obtain ⟨k, rfl, hk'⟩ := exS hk
  obtain ⟨c, m, s, a, g⟩ := t
  obtain ⟨hs1, hs2, hs3⟩ := hs
  simp only at hs1 hs2 hs3
  unfold TOk
  rw [impl_ThreeOk_eq, impl_within_ev (by omega), impl_within_ev (by omega)]
  simp only [Option.bind_some]
  by_cases h1 : (decide (1 ≤ c) && decide (c ≤ 60)) = true
  · by_cases h2 : (decide (1 ≤ m) && decide (m ≤ c)) = true
    · have h1' := h1; have h2' := h2
      simp only [Bool.and_eq_true, decide_eq_true_eq] at h1' h2'
      rw [impl_Three_ghosts_ev (by omega) (c, m, s, a, g) (by simp only; omega) (by simp only; omega) (by simp only; omega) (by simp only; omega)]
      rw [h1, h2]
      by_cases h4 : ghosts c m < (g.length : Int)
      · have h4' : ¬ (g.length : Int) ≤ ghosts c m := by omega
        simp [h4, h4']
      · have h4' : (g.length : Int) ≤ ghosts c m := by omega
        have h6 := impl_ThreeOk_l0_ev (k := k) hk c m s a g hs3 hs1 hs2 k 0 (by omega) (by omega) (by omega)
        simp (disch := (first | assumption | omega)) only [if_pos, if_neg, if_t, if_f, not_true_eq_false, not_false_eq_true, Bool.false_eq_true, Bool.true_eq_false, eq_self, decide_true, decide_false, Bool.not_true, Bool.not_false, decide_eq_true_eq, Option.bind_some, Bool.not_eq_true', decide_eq_false_iff_not, h4, lim_3, lim_4, lim_9, lim_78, lim_121, lim_128, lim_137]
        rw [h6]
        simp [h4']
        cases ghF g g 0 <;> simp
    · simp only [Bool.not_eq_true] at h2
      simp [h1, h2]
  · simp only [Bool.not_eq_true] at h1
    simp [h1]
end Go.Proofs.Ytgnnljpdcafdkaa.Ev

/- Copies, hashes, and lists without one. -/
namespace Go.Proofs.Ytgnnljpdcafdkaa.Ev
open Go
set_option linter.unusedVariables false

theorem impl_copyInts_ev {k : Nat} (hk : 4294967297 ≤ k) (l : List Int) (hl : l.length ≤ 4194304) : asO (List Int) (evF cfg0 k 161 l) = some l := by
  obtain ⟨k, rfl, hk⟩ := exS hk
  rw [impl_copyInts_eq]
  simp (disch := (first | assumption | omega)) only [if_pos, if_neg, if_t, if_f, not_true_eq_false, not_false_eq_true, Bool.false_eq_true, Bool.true_eq_false, eq_self, decide_true, decide_false, Bool.not_true, Bool.not_false, decide_eq_true_eq, Option.bind_some, Bool.not_eq_true', decide_eq_false_iff_not, lim_3, lim_4, lim_9, lim_78, lim_121, lim_128, lim_137]
theorem impl_copyThree_ev {k : Nat} (hk : 4294967298 ≤ k) (t : Thr) (h1 : t.2.2.1.length ≤ 4194304) (h2 : t.2.2.2.1.length ≤ 4194304) (h3 : t.2.2.2.2.length ≤ 4194304) : asO Thr (evF cfg0 k 97 t) = some t := by
  obtain ⟨k, rfl, hk⟩ := exS hk
  obtain ⟨c, m, s, a, g⟩ := t
  simp only at h1 h2 h3
  rw [impl_copyThree_eq, impl_copyItems_ev (by omega) s h1]
  simp only [Option.bind_some]
  rw [impl_copyItems_ev (by omega) a h2]
  simp only [Option.bind_some]
  rw [impl_copyInts_ev (by omega) g h3]
  rfl
theorem spec_l10Copy_ev {k : Nat} (hk : 4294967297 ≤ k) (t : Thr) (h1 : t.2.2.1.length ≤ 4194304) (h2 : t.2.2.2.1.length ≤ 4194304) (h3 : t.2.2.2.2.length ≤ 4194304) : asO Thr (evF cfg0 k 92 t) = some t := by
  obtain ⟨k, rfl, hk⟩ := exS hk
  obtain ⟨c, m, s, a, g⟩ := t
  simp only at h1 h2 h3
  rw [spec_l10Copy_eq]
  simp (disch := (first | assumption | omega)) only [if_pos, if_neg, if_t, if_f, not_true_eq_false, not_false_eq_true, Bool.false_eq_true, Bool.true_eq_false, eq_self, decide_true, decide_false, Bool.not_true, Bool.not_false, decide_eq_true_eq, Option.bind_some, Bool.not_eq_true', decide_eq_false_iff_not, lim_3, lim_4, lim_9, lim_78, lim_121, lim_128, lim_137, List.length_nil, List.nil_append]

/-! ### hashes -/
def hashF (s : ByteArray) : Nat → Int → Int → Int
  | 0, _, h => h
  | n + 1, i, h => hashF s n (i + 1) (Int.tmod (IntKind.wrap .i64 ((bitOp .xor .i64 h (IntKind.wrap .i64 (bt s i))) * (16777619 : Int))) (4294967296 : Int))
theorem spec_Hash_l0_ev {k : Nat} (s : ByteArray) (hs : s.size ≤ 2097152) : ∀ (m n : Nat) (i h : Int), 0 ≤ i → i + n = s.size → n < m → spec_Hash_l0 k m s h i = some (hashF s n i h) := by
  intro m
  induction m with
  | zero => intro n i h h0 h1 h2; omega
  | succ m ih =>
    intro n i h h0 h1 h2
    rw [spec_Hash_l0_eq]
    cases n with
    | zero => simp (disch := (first | assumption | omega)) only [if_pos, if_neg, if_t, if_f, not_true_eq_false, not_false_eq_true, Bool.false_eq_true, Bool.true_eq_false, eq_self, decide_true, decide_false, Bool.not_true, Bool.not_false, decide_eq_true_eq, Option.bind_some, Bool.not_eq_true', decide_eq_false_iff_not, hashF]
    | succ n =>
      have h3 : i < (s.size : Int) := by omega
      have e : IntKind.wrap .i64 (i + 1) = i + 1 := wrp (by omega) (by omega)
      simp (disch := (first | assumption | omega)) only [if_pos, if_neg, if_t, if_f, not_true_eq_false, not_false_eq_true, Bool.false_eq_true, Bool.true_eq_false, eq_self, decide_true, decide_false, Bool.not_true, Bool.not_false, decide_eq_true_eq, Option.bind_some, Bool.not_eq_true', decide_eq_false_iff_not, hashF, e]
      exact ih n (i + 1) _ (by omega) (by omega) (by omega)
theorem impl_Hash_l0_ev {k : Nat} (s : ByteArray) (hs : s.size ≤ 2097152) : ∀ (m n : Nat) (i h : Int), 0 ≤ i → i + n = s.size → n < m → impl_Hash_l0 k m s h i = some (hashF s n i h) := by
  intro m
  induction m with
  | zero => intro n i h h0 h1 h2; omega
  | succ m ih =>
    intro n i h h0 h1 h2
    rw [impl_Hash_l0_eq]
    cases n with
    | zero => simp (disch := (first | assumption | omega)) only [if_pos, if_neg, if_t, if_f, not_true_eq_false, not_false_eq_true, Bool.false_eq_true, Bool.true_eq_false, eq_self, decide_true, decide_false, Bool.not_true, Bool.not_false, decide_eq_true_eq, Option.bind_some, Bool.not_eq_true', decide_eq_false_iff_not, hashF]
    | succ n =>
      have h3 : i < (s.size : Int) := by omega
      have e : IntKind.wrap .i64 (i + 1) = i + 1 := wrp (by omega) (by omega)
      simp (disch := (first | assumption | omega)) only [if_pos, if_neg, if_t, if_f, not_true_eq_false, not_false_eq_true, Bool.false_eq_true, Bool.true_eq_false, eq_self, decide_true, decide_false, Bool.not_true, Bool.not_false, decide_eq_true_eq, Option.bind_some, Bool.not_eq_true', decide_eq_false_iff_not, hashF, e]
      exact ih n (i + 1) _ (by omega) (by omega) (by omega)
def hash (s : ByteArray) : Int := hashF s s.size 0 2166136261
theorem spec_Hash_ev {k : Nat} (hk : 4294967297 ≤ k) (s : ByteArray) (hs : s.size ≤ 2097152) : asO Int (evF cfg0 k 187 s) = some (hash s) := by
  obtain ⟨k, rfl, hk⟩ := exS hk
  rw [spec_Hash_eq]
  exact spec_Hash_l0_ev s hs k s.size 0 _ (by omega) (by omega) (by omega)
theorem impl_Hash_ev {k : Nat} (hk : 4294967297 ≤ k) (s : ByteArray) (hs : s.size ≤ 2097152) : asO Int (evF cfg0 k 53 s) = some (hash s) := by
  obtain ⟨k, rfl, hk⟩ := exS hk
  rw [impl_Hash_eq]
  exact impl_Hash_l0_ev s hs k s.size 0 _ (by omega) (by omega) (by omega)

/-! ### a list without one number -/
def but (h : Int) (l : List Int) : List Int := l.filter fun x => !decide (x = h)
theorem but_len (h : Int) (l : List Int) : (but h l).length ≤ l.length := List.length_filter_le _ _
theorem spec_l08But_l0_ev {k : Nat} (l : List Int) (h : Int) (hl : l.length ≤ 4194304) : ∀ (m : Nat) (i : Int) (acc : List Int), 0 ≤ i → i ≤ l.length → l.length < i + m → acc.length ≤ i → spec_l08But_l0 k m l h i acc = some (acc ++ but h (l.drop i.toNat)) := by
  intro m
  induction m with
  | zero => intro i acc h0 h1 h2; omega
  | succ m ih =>
    intro i acc h0 h1 h2 hacc
    rw [spec_l08But_l0_eq]
    by_cases h3 : i < (l.length : Int)
    · rw [dropC (d := 0) h0 h3]
      by_cases h4 : l.getD i.toNat 0 = h
      · simp (disch := (first | assumption | omega)) only [if_pos, if_neg, if_t, if_f, not_true_eq_false, not_false_eq_true, Bool.false_eq_true, Bool.true_eq_false, eq_self, decide_true, decide_false, Bool.not_true, Bool.not_false, decide_eq_true_eq, Option.bind_some, Bool.not_eq_true', decide_eq_false_iff_not, h4, wrp]
        rw [ih (i + 1) acc (by omega) (by omega) (by omega) (by omega)]
        simp [but]
      · have e : acc.length + [l.getD i.toNat 0].length ≤ 4194305 := by simp only [List.length_cons, List.length_nil]; omega
        simp (disch := (first | assumption | omega)) only [if_pos, if_neg, if_t, if_f, not_true_eq_false, not_false_eq_true, Bool.false_eq_true, Bool.true_eq_false, eq_self, decide_true, decide_false, Bool.not_true, Bool.not_false, decide_eq_true_eq, Option.bind_some, Bool.not_eq_true', decide_eq_false_iff_not, h4, wrp, lim_3, lim_4, lim_9, lim_78, lim_121, lim_128, lim_137]
        rw [ih (i + 1) (acc ++ [l.getD i.toNat 0]) (by omega) (by omega) (by omega) (by rw [List.length_append]; simp only [List.length_cons, List.length_nil]; omega)]
        simp only [but]
        rw [List.filter_cons_of_pos (by simp only [decide_eq_false h4, Bool.not_false]), List.append_assoc]; rfl
    · rw [dropN h0 h3]
      simp (disch := (first | assumption | omega)) only [if_pos, if_neg, if_t, if_f, not_true_eq_false, not_false_eq_true, Bool.false_eq_true, Bool.true_eq_false, eq_self, decide_true, decide_false, Bool.not_true, Bool.not_false, decide_eq_true_eq, Option.bind_some, Bool.not_eq_true', decide_eq_false_iff_not, h3]; simp [but]
theorem spec_l08But_ev {k : Nat} (hk : 4294967297 ≤ k) (l : List Int) (h : Int) (hl : l.length ≤ 4194304) : asO (List Int) (evF cfg0 k 188 (l, h)) = some (but h l) := by
  obtain ⟨k, rfl, hk⟩ := exS hk
  rw [spec_l08But_eq]
  simpa using spec_l08But_l0_ev (k := k) l h hl k 0 [] (by omega) (by omega) (by omega) (by simp)
theorem ixF_split (h : Int) : ∀ (l : List Int) (i : Int), 0 ≤ i → (ixF h l i = -1 → but h l = l) ∧ (ixF h l i ≠ -1 → i ≤ ixF h l i ∧ ixF h l i < i + l.length ∧ l.take (ixF h l i - i).toNat ++ but h (l.drop (ixF h l i - i + 1).toNat) = but h l)
  | [], i, hi => ⟨fun _ => rfl, fun e => absurd rfl e⟩
  | x :: r, i, hi => by
    have := ixF_split h r (i + 1) (by omega)
    unfold ixF
    by_cases e : x = h
    · simp only [if_pos e]
      refine ⟨fun q => absurd q (by omega), fun _ => ⟨by omega, by simp only [List.length_cons]; omega, ?_⟩⟩
      rw [Int.sub_self]
      simp [but, e]
    · simp only [if_neg e]
      have hb : but h (x :: r) = x :: but h r := by
        simp only [but]; rw [List.filter_cons_of_pos (by simp only [decide_eq_false e, Bool.not_false])]
      refine ⟨fun q => by rw [hb, this.1 q], fun q => ?_⟩
      have t3 := this.2 q
      have e1 : (ixF h r (i + 1) - i).toNat = (ixF h r (i + 1) - (i + 1)).toNat + 1 := by omega
      have e2 : (ixF h r (i + 1) - i + 1).toNat = (ixF h r (i + 1) - (i + 1) + 1).toNat + 1 := by omega
      refine ⟨by omega, by simp only [List.length_cons]; omega, ?_⟩
      rw [e1, e2, List.take_succ_cons, List.drop_succ_cons, hb, List.cons_append, t3.2.2]
theorem take_set {α : Type} (l : List α) (i : Nat) (v : α) (h : i < l.length) : (l.set i v).take (i + 1) = l.take i ++ [v] := by
  rw [List.take_add_one, List.take_set_of_le (Nat.le_refl i)]; simp [h]
theorem drop_set {α : Type} (l : List α) (i j : Nat) (v : α) (h : i < j) : (l.set i v).drop j = l.drop j := by
  rw [List.drop_set_of_lt h]
theorem take_le {α : Type} (l : List α) (i : Nat) (r : List α) (h : i ≤ l.length) : ((l.take i ++ r).drop 0).take (i - 0) = l.take i := by
  rw [List.drop_zero, Nat.sub_zero, List.take_append_of_le_length (by rw [List.length_take]; omega), List.take_take, Nat.min_self]
theorem impl_Put_1_ev {k : Nat} (hk : 4294967297 ≤ k) (x h : Int) : asO Bool (evF cfg0 k 193 (x, h)) = some (decide (x = h)) := by
  obtain ⟨k, rfl, hk⟩ := exS hk
  rw [impl_Put_1_eq]
theorem impl_Three_evictSmall_1_ev {k : Nat} (hk : 4294967297 ≤ k) (x h : Int) : asO Bool (evF cfg0 k 226 (x, h)) = some (decide (x = h)) := by
  obtain ⟨k, rfl, hk⟩ := exS hk
  rw [impl_Three_evictSmall_1_eq]
theorem impl_Drop_1_ev {k : Nat} (hk : 4294967297 ≤ k) (x : Itm) (key : ByteArray) : asO Bool (evF cfg0 k 194 (x, key)) = some (decide (x.1 = key)) := by
  obtain ⟨k, rfl, hk⟩ := exS hk
  obtain ⟨a, b, c⟩ := x
  rw [impl_Drop_1_eq, seq_dec]
theorem slices_IndexFunc__int_int_impl_Put_1_l0_ev {k : Nat} (hk : 4294967297 ≤ k) (l : List Int) (h : Int) (hl : l.length ≤ 4194304) : ∀ (m : Nat) (i : Int), 0 ≤ i → i ≤ l.length → l.length < i + m → slices_IndexFunc__int_int_impl_Put_1_l0 k m l h i = some (ixF h (l.drop i.toNat) i) := by
  intro m
  induction m with
  | zero => intro i h0 h1 h2; omega
  | succ m ih =>
    intro i h0 h1 h2
    rw [slices_IndexFunc__int_int_impl_Put_1_l0_eq]
    by_cases h3 : i < (l.length : Int)
    · rw [dropC (d := 0) h0 h3, impl_Put_1_ev hk]
      by_cases h4 : l.getD i.toNat 0 = h
      · simp (disch := (first | assumption | omega)) only [if_pos, if_neg, if_t, if_f, not_true_eq_false, not_false_eq_true, Bool.false_eq_true, Bool.true_eq_false, eq_self, decide_true, decide_false, Bool.not_true, Bool.not_false, decide_eq_true_eq, Option.bind_some, Bool.not_eq_true', decide_eq_false_iff_not, h4, ixF]
      · simp (disch := (first | assumption | omega)) only [if_pos, if_neg, if_t, if_f, not_true_eq_false, not_false_eq_true, Bool.false_eq_true, Bool.true_eq_false, eq_self, decide_true, decide_false, Bool.not_true, Bool.not_false, decide_eq_true_eq, Option.bind_some, Bool.not_eq_true', decide_eq_false_iff_not, h4, wrp, ixF]
        exact ih (i + 1) (by omega) (by omega) (by omega)
    · rw [dropN h0 h3]
      simp (disch := (first | assumption | omega)) only [if_pos, if_neg, if_t, if_f, not_true_eq_false, not_false_eq_true, Bool.false_eq_true, Bool.true_eq_false, eq_self, decide_true, decide_false, Bool.not_true, Bool.not_false, decide_eq_true_eq, Option.bind_some, Bool.not_eq_true', decide_eq_false_iff_not, h3, ixF]
theorem slices_IndexFunc__int_int_impl_Put_1_ev {k : Nat} (hk : 4294967298 ≤ k) (l : List Int) (h : Int) (hl : l.length ≤ 4194304) : asO Int (evF cfg0 k 218 (l, 193, h)) = some (ixF h l 0) := by
  obtain ⟨k, rfl, hk⟩ := exS hk
  rw [slices_IndexFunc__int_int_impl_Put_1_eq]
  simpa using slices_IndexFunc__int_int_impl_Put_1_l0_ev (k := k) (by omega) l h hl k 0 (by omega) (by omega) (by omega)
theorem slices_DeleteFunc__int_int_impl_Put_1_l0_ev {k : Nat} (hk : 4294967297 ≤ k) (h : Int) : ∀ (m : Nat) (i j : Int) (l : List Int), l.length ≤ 4194304 → 0 ≤ i → i ≤ j → j ≤ l.length → l.length < j + m → slices_DeleteFunc__int_int_impl_Put_1_l0 k m h i j l = some (l.take i.toNat ++ but h (l.drop j.toNat)) := by
  intro m
  induction m with
  | zero => intro i j l hl h0 h1 h2; omega
  | succ m ih =>
    intro i j l hl h0 h1 h2 h2'
    rw [slices_DeleteFunc__int_int_impl_Put_1_l0_eq]
    by_cases h3 : j < (l.length : Int)
    · have ei : IntKind.wrap .i64 (i + 1) = i + 1 := wrp (by omega) (by omega)
      have ej : IntKind.wrap .i64 (j + 1) = j + 1 := wrp (by omega) (by omega)
      rw [dropC (d := 0) (by omega) h3, impl_Put_1_ev hk]
      by_cases h4 : l.getD j.toNat 0 = h
      · simp (disch := (first | assumption | omega)) only [if_pos, if_neg, if_t, if_f, not_true_eq_false, not_false_eq_true, Bool.false_eq_true, Bool.true_eq_false, eq_self, decide_true, decide_false, Bool.not_true, Bool.not_false, decide_eq_true_eq, Option.bind_some, Bool.not_eq_true', decide_eq_false_iff_not, h4, ei, ej]
        rw [ih i (j + 1) l (by omega) (by omega) (by omega) (by omega) (by omega)]
        simp [but]
      · simp (disch := (first | assumption | omega)) only [if_pos, if_neg, if_t, if_f, not_true_eq_false, not_false_eq_true, Bool.false_eq_true, Bool.true_eq_false, eq_self, decide_true, decide_false, Bool.not_true, Bool.not_false, decide_eq_true_eq, Option.bind_some, Bool.not_eq_true', decide_eq_false_iff_not, h4, ei, ej]
        rw [ih (i + 1) (j + 1) (l.set i.toNat (l.getD j.toNat 0)) (by rw [List.length_set]; omega) (by omega) (by omega) (by rw [List.length_set]; omega) (by rw [List.length_set]; omega)]
        rw [tn1 h0, take_set _ _ _ (by omega), tn1 (by omega : 0 ≤ j), drop_set _ _ _ _ (by omega)]
        simp only [but]
        rw [List.filter_cons_of_pos (by simp only [decide_eq_false h4, Bool.not_false]), List.append_assoc]; rfl
    · rw [dropN (by omega) h3]
      have hi : i.toNat ≤ l.length := by omega
      have e : (l.take i.toNat ++ (List.replicate (l.length - i.toNat) 0 ++ l.drop (i.toNat + (l.length - i.toNat)))).length = l.length := by
        simp only [List.length_append, List.length_take, List.length_replicate, List.length_drop]; omega
      rw [e]
      simp (disch := (first | assumption | omega)) only [if_pos, if_neg, if_t, if_f, not_true_eq_false, not_false_eq_true, Bool.false_eq_true, Bool.true_eq_false, eq_self, decide_true, decide_false, Bool.not_true, Bool.not_false, decide_eq_true_eq, Option.bind_some, Bool.not_eq_true', decide_eq_false_iff_not, h3]
      rw [take_le _ _ _ hi]
      simp [but]
theorem slices_DeleteFunc__int_int_impl_Put_1_ev {k : Nat} (hk : 4294967299 ≤ k) (l : List Int) (h : Int) (hl : l.length ≤ 1048577) : asO (List Int) (evF cfg0 k 192 (l, 193, h)) = some (but h l) := by
  obtain ⟨k, rfl, hk⟩ := exS hk
  rw [slices_DeleteFunc__int_int_impl_Put_1_eq, slices_IndexFunc__int_int_impl_Put_1_ev (by omega) l h (by omega)]
  have key := ixF_split h l 0 (by omega)
  by_cases e : ixF h l 0 = -1
  · simp (disch := (first | assumption | omega)) only [if_pos, if_neg, if_t, if_f, not_true_eq_false, not_false_eq_true, Bool.false_eq_true, Bool.true_eq_false, eq_self, decide_true, decide_false, Bool.not_true, Bool.not_false, decide_eq_true_eq, Option.bind_some, Bool.not_eq_true', decide_eq_false_iff_not, e]
    rw [key.1 e]
  · have k2 := key.2 e
    have ej : IntKind.wrap .i64 (ixF h l 0 + 1) = ixF h l 0 + 1 := wrp (by omega) (by omega)
    simp (disch := (first | assumption | omega)) only [if_pos, if_neg, if_t, if_f, not_true_eq_false, not_false_eq_true, Bool.false_eq_true, Bool.true_eq_false, eq_self, decide_true, decide_false, Bool.not_true, Bool.not_false, decide_eq_true_eq, Option.bind_some, Bool.not_eq_true', decide_eq_false_iff_not, e, ej]
    rw [slices_DeleteFunc__int_int_impl_Put_1_l0_ev (by omega) h k _ _ l (by omega) (by omega) (by omega) (by omega) (by omega)]
    have k3 := k2.2.2
    simp only [Int.sub_zero] at k3
    rw [k3]
theorem slices_IndexFunc__int_int_impl_Three_evictSmall_1_l0_ev {k : Nat} (hk : 4294967297 ≤ k) (l : List Int) (h : Int) (hl : l.length ≤ 4194304) : ∀ (m : Nat) (i : Int), 0 ≤ i → i ≤ l.length → l.length < i + m → slices_IndexFunc__int_int_impl_Three_evictSmall_1_l0 k m l h i = some (ixF h (l.drop i.toNat) i) := by
  intro m
  induction m with
  | zero => intro i h0 h1 h2; omega
  | succ m ih =>
    intro i h0 h1 h2
    rw [slices_IndexFunc__int_int_impl_Three_evictSmall_1_l0_eq]
    by_cases h3 : i < (l.length : Int)
    · rw [dropC (d := 0) h0 h3, impl_Three_evictSmall_1_ev hk]
      by_cases h4 : l.getD i.toNat 0 = h
      · simp (disch := (first | assumption | omega)) only [if_pos, if_neg, if_t, if_f, not_true_eq_false, not_false_eq_true, Bool.false_eq_true, Bool.true_eq_false, eq_self, decide_true, decide_false, Bool.not_true, Bool.not_false, decide_eq_true_eq, Option.bind_some, Bool.not_eq_true', decide_eq_false_iff_not, h4, ixF]
      · simp (disch := (first | assumption | omega)) only [if_pos, if_neg, if_t, if_f, not_true_eq_false, not_false_eq_true, Bool.false_eq_true, Bool.true_eq_false, eq_self, decide_true, decide_false, Bool.not_true, Bool.not_false, decide_eq_true_eq, Option.bind_some, Bool.not_eq_true', decide_eq_false_iff_not, h4, wrp, ixF]
        exact ih (i + 1) (by omega) (by omega) (by omega)
    · rw [dropN h0 h3]
      simp (disch := (first | assumption | omega)) only [if_pos, if_neg, if_t, if_f, not_true_eq_false, not_false_eq_true, Bool.false_eq_true, Bool.true_eq_false, eq_self, decide_true, decide_false, Bool.not_true, Bool.not_false, decide_eq_true_eq, Option.bind_some, Bool.not_eq_true', decide_eq_false_iff_not, h3, ixF]
theorem slices_IndexFunc__int_int_impl_Three_evictSmall_1_ev {k : Nat} (hk : 4294967298 ≤ k) (l : List Int) (h : Int) (hl : l.length ≤ 4194304) : asO Int (evF cfg0 k 218 (l, 226, h)) = some (ixF h l 0) := by
  obtain ⟨k, rfl, hk⟩ := exS hk
  rw [slices_IndexFunc__int_int_impl_Three_evictSmall_1_eq]
  simpa using slices_IndexFunc__int_int_impl_Three_evictSmall_1_l0_ev (k := k) (by omega) l h hl k 0 (by omega) (by omega) (by omega)
theorem slices_DeleteFunc__int_int_impl_Three_evictSmall_1_l0_ev {k : Nat} (hk : 4294967297 ≤ k) (h : Int) : ∀ (m : Nat) (i j : Int) (l : List Int), l.length ≤ 4194304 → 0 ≤ i → i ≤ j → j ≤ l.length → l.length < j + m → slices_DeleteFunc__int_int_impl_Three_evictSmall_1_l0 k m h i j l = some (l.take i.toNat ++ but h (l.drop j.toNat)) := by
  intro m
  induction m with
  | zero => intro i j l hl h0 h1 h2; omega
  | succ m ih =>
    intro i j l hl h0 h1 h2 h2'
    rw [slices_DeleteFunc__int_int_impl_Three_evictSmall_1_l0_eq]
    by_cases h3 : j < (l.length : Int)
    · have ei : IntKind.wrap .i64 (i + 1) = i + 1 := wrp (by omega) (by omega)
      have ej : IntKind.wrap .i64 (j + 1) = j + 1 := wrp (by omega) (by omega)
      rw [dropC (d := 0) (by omega) h3, impl_Three_evictSmall_1_ev hk]
      by_cases h4 : l.getD j.toNat 0 = h
      · simp (disch := (first | assumption | omega)) only [if_pos, if_neg, if_t, if_f, not_true_eq_false, not_false_eq_true, Bool.false_eq_true, Bool.true_eq_false, eq_self, decide_true, decide_false, Bool.not_true, Bool.not_false, decide_eq_true_eq, Option.bind_some, Bool.not_eq_true', decide_eq_false_iff_not, h4, ei, ej]
        rw [ih i (j + 1) l (by omega) (by omega) (by omega) (by omega) (by omega)]
        simp [but]
      · simp (disch := (first | assumption | omega)) only [if_pos, if_neg, if_t, if_f, not_true_eq_false, not_false_eq_true, Bool.false_eq_true, Bool.true_eq_false, eq_self, decide_true, decide_false, Bool.not_true, Bool.not_false, decide_eq_true_eq, Option.bind_some, Bool.not_eq_true', decide_eq_false_iff_not, h4, ei, ej]
        rw [ih (i + 1) (j + 1) (l.set i.toNat (l.getD j.toNat 0)) (by rw [List.length_set]; omega) (by omega) (by omega) (by rw [List.length_set]; omega) (by rw [List.length_set]; omega)]
        rw [tn1 h0, take_set _ _ _ (by omega), tn1 (by omega : 0 ≤ j), drop_set _ _ _ _ (by omega)]
        simp only [but]
        rw [List.filter_cons_of_pos (by simp only [decide_eq_false h4, Bool.not_false]), List.append_assoc]; rfl
    · rw [dropN (by omega) h3]
      have hi : i.toNat ≤ l.length := by omega
      have e : (l.take i.toNat ++ (List.replicate (l.length - i.toNat) 0 ++ l.drop (i.toNat + (l.length - i.toNat)))).length = l.length := by
        simp only [List.length_append, List.length_take, List.length_replicate, List.length_drop]; omega
      rw [e]
      simp (disch := (first | assumption | omega)) only [if_pos, if_neg, if_t, if_f, not_true_eq_false, not_false_eq_true, Bool.false_eq_true, Bool.true_eq_false, eq_self, decide_true, decide_false, Bool.not_true, Bool.not_false, decide_eq_true_eq, Option.bind_some, Bool.not_eq_true', decide_eq_false_iff_not, h3]
      rw [take_le _ _ _ hi]
      simp [but]
theorem slices_DeleteFunc__int_int_impl_Three_evictSmall_1_ev {k : Nat} (hk : 4294967299 ≤ k) (l : List Int) (h : Int) (hl : l.length ≤ 1048577) : asO (List Int) (evF cfg0 k 192 (l, 226, h)) = some (but h l) := by
  obtain ⟨k, rfl, hk⟩ := exS hk
  rw [slices_DeleteFunc__int_int_impl_Three_evictSmall_1_eq, slices_IndexFunc__int_int_impl_Three_evictSmall_1_ev (by omega) l h (by omega)]
  have key := ixF_split h l 0 (by omega)
  by_cases e : ixF h l 0 = -1
  · simp (disch := (first | assumption | omega)) only [if_pos, if_neg, if_t, if_f, not_true_eq_false, not_false_eq_true, Bool.false_eq_true, Bool.true_eq_false, eq_self, decide_true, decide_false, Bool.not_true, Bool.not_false, decide_eq_true_eq, Option.bind_some, Bool.not_eq_true', decide_eq_false_iff_not, e]
    rw [key.1 e]
  · have k2 := key.2 e
    have ej : IntKind.wrap .i64 (ixF h l 0 + 1) = ixF h l 0 + 1 := wrp (by omega) (by omega)
    simp (disch := (first | assumption | omega)) only [if_pos, if_neg, if_t, if_f, not_true_eq_false, not_false_eq_true, Bool.false_eq_true, Bool.true_eq_false, eq_self, decide_true, decide_false, Bool.not_true, Bool.not_false, decide_eq_true_eq, Option.bind_some, Bool.not_eq_true', decide_eq_false_iff_not, e, ej]
    rw [slices_DeleteFunc__int_int_impl_Three_evictSmall_1_l0_ev (by omega) h k _ _ l (by omega) (by omega) (by omega) (by omega) (by omega)]
    have k3 := k2.2.2
    simp only [Int.sub_zero] at k3
    rw [k3]
end Go.Proofs.Ytgnnljpdcafdkaa.Ev
