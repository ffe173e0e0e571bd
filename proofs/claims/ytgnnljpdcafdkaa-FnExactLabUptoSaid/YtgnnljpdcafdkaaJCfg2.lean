/- The tables of types, joined. -/
import Derived.Test.YtgnnljpdcafdkaaJCfg1
set_option linter.unusedVariables false
set_option linter.unusedSimpArgs false
set_option linter.unusedSectionVars false
namespace Go.Proofs.Ytgnnljpdcafdkaa.Ev
open Go

section
variable {P : Program} {tt : TT}

theorem chkT_info {T : TypeId} {t : Ty} (h : chkT P tt T t = true) : ∃ i z, P.info? T = some i ∧ i.size = t.sz ∧ i.bytes = tt.bytes T ∧ i.zero = some z ∧ z.cells = (zeroVs t).toArray := by
  unfold chkT at h
  rw [Bool.and_eq_true] at h
  have h1 := h.1
  split at h1
  · rename_i i hi
    simp only [Bool.and_eq_true, decide_eq_true_eq] at h1
    obtain ⟨e1, e2, e3⟩ := h1
    split at e3
    · rename_i z hz
      refine ⟨i, z, hi, e1, e2, hz, ?_⟩
      apply Array.ext'
      simpa using vsEq_eq e3
    · cases e3
  · cases h1
theorem chkT_top {T : TypeId} {t : Ty} (h : chkT P tt T t = true) : t.isAgg = true ∨ t.sz = 1 := by
  unfold chkT at h
  simp only [Bool.and_eq_true, Bool.or_eq_true, decide_eq_true_eq] at h
  exact h.2.1
theorem chkT_desc {T : TypeId} {t : Ty} (h : chkT P tt T t = true) : chkD P tt T t = true := by
  unfold chkT at h
  rw [Bool.and_eq_true, Bool.and_eq_true] at h
  exact h.2.2

theorem chk_int {T : TypeId} {k : IntKind} (h : chkT P tt T (.int k) = true) : P.underlying T = some (.int k) := by
  have := chkT_desc h
  simp only [chkD] at this
  split at this
  · rename_i k1 e
    simp at this; subst this
    exact e
  · cases this
theorem chk_bool {T : TypeId} (h : chkT P tt T .bool = true) : P.underlying T = some .bool := by
  have := chkT_desc h
  simp only [chkD] at this
  split at this
  · assumption
  · cases this
theorem chk_str {T : TypeId} (h : chkT P tt T .str = true) : P.underlying T = some .string := by
  have := chkT_desc h
  simp only [chkD] at this
  split at this
  · assumption
  · cases this
theorem chk_slice {T e : TypeId} {t : Ty} (h : chkT P tt T (.slice e t) = true) : P.underlying T = some (.slice e) ∧ tt.elem T = some e ∧ tt.shape e = some t := by
  have := chkT_desc h
  simp only [chkD] at this
  split at this
  · rename_i e1 e2
    simp only [Bool.and_eq_true, decide_eq_true_eq] at this
    obtain ⟨rfl, h1, h2⟩ := this
    exact ⟨e2, h1, h2⟩
  · cases this
theorem chk_st {T : TypeId} {t : Ty} (h : chkT P tt T (.st t) = true) : ∃ fs, P.underlying T = some (.struct fs) ∧ (∀ f ∈ fs.toList, ∃ i, P.info? f.type = some i) ∧ fldsB tt t fs.toList 0 = true := by
  have := chkT_desc h
  simp only [chkD] at this
  split at this
  · rename_i fs e2
    rw [Bool.and_eq_true] at this
    refine ⟨fs, e2, fun f hf => ?_, this.2⟩
    have h1 := List.all_eq_true.1 this.1 f hf
    exact Option.isSome_iff_exists.1 h1
  · cases this
theorem chk_no {T : TypeId} {t : Ty} (h : chkT P tt T t = true) : (∃ k, t = .int k) ∨ t = .bool ∨ t = .str ∨ (∃ e t', t = .slice e t') ∨ ∃ t', t = .st t' := by
  have := chkT_desc h
  cases t with
  | int k => exact .inl ⟨k, rfl⟩
  | bool => exact .inr (.inl rfl)
  | str => exact .inr (.inr (.inl rfl))
  | slice e t' => exact .inr (.inr (.inr (.inl ⟨e, t', rfl⟩)))
  | st t' => exact .inr (.inr (.inr (.inr ⟨t', rfl⟩)))
  | _ => simp [chkD] at this

theorem chk_agg {T : TypeId} {t : Ty} (h : chkT P tt T t = true) : ∃ d, P.underlying T = some d ∧ (match d with | .struct _ | .array _ _ => true | _ => false) = t.isAgg := by
  rcases chk_no h with ⟨k, rfl⟩ | rfl | rfl | ⟨e, t', rfl⟩ | ⟨t', rfl⟩
  · exact ⟨_, chk_int h, rfl⟩
  · exact ⟨_, chk_bool h, rfl⟩
  · exact ⟨_, chk_str h, rfl⟩
  · exact ⟨_, (chk_slice h).1, rfl⟩
  · obtain ⟨fs, h1, _⟩ := chk_st h
    exact ⟨_, h1, rfl⟩
theorem chk_run_agg {T : TypeId} {t : Ty} (h : chkT P tt T t = true) (w : World) : (isAgg T).run P w = .ok t.isAgg w := by
  obtain ⟨d, h1, h2⟩ := chk_agg h
  unfold isAgg
  rw [Sem.run_bind, run_underlying h1 w]
  revert h2
  cases d <;> simp_all

variable (hc : ∀ T t, tt.shape T = some t → chkT P tt T t = true)
include hc

theorem leaf_eq {T : TypeId} {t : Ty} (hs : tt.shape T = some t) (hf : flatT t = true) (x y : t.D) {xs ys : Array Value} {o : Nat} (hx : ∀ (i : Nat) v, (cellsV t x)[i]? = some v → xs[o + i]? = some v) (hy : ∀ (i : Nat) v, (cellsV t y)[i]? = some v → ys[o + i]? = some v) (d : Nat) (w : World) (K : Bool → Sem Bool) :
    (do let a ← part T xs o; let b ← part T ys o; let r ← Op.equalIn (d + 1) T a b; K r : Sem Bool).run P w = (K (eqT t x y)).run P w := by
  have h := hc T t hs
  rcases chk_no h with ⟨k, rfl⟩ | rfl | rfl | ⟨e, t', rfl⟩ | ⟨t', rfl⟩
  · have h1 := run_part (P := P) hs (fun w => chk_run_agg h w) rfl (hx 0 (.int k x) rfl) w
    have h2 := run_part (P := P) hs (fun w => chk_run_agg h w) rfl (hy 0 (.int k y) rfl) w
    simp only [Nat.add_zero] at h1 h2
    simp only [Sem.run_bind, h1, h2, Result.andThen_ok, run_equalIn_int w d T k k x y (chk_int h)]
    congr 1
  · have h1 := run_part (P := P) hs (fun w => chk_run_agg h w) rfl (hx 0 (.bool x) rfl) w
    have h2 := run_part (P := P) hs (fun w => chk_run_agg h w) rfl (hy 0 (.bool y) rfl) w
    simp only [Nat.add_zero] at h1 h2
    simp only [Sem.run_bind, h1, h2, Result.andThen_ok, run_equalIn_bool' w d T x y (chk_bool h)]
    rfl
  · have h1 := run_part (P := P) hs (fun w => chk_run_agg h w) rfl (hx 0 (.string x) rfl) w
    have h2 := run_part (P := P) hs (fun w => chk_run_agg h w) rfl (hy 0 (.string y) rfl) w
    simp only [Nat.add_zero] at h1 h2
    simp only [Sem.run_bind, h1, h2, Result.andThen_ok, run_equalIn_string w d T x y (chk_str h)]
    rfl
  · simp [flatT] at hf
  · simp [flatT] at hf

theorem eqFields_flat : ∀ {t : Ty} {fs : List Field} {off : Nat}, fldsB tt t fs off = true → flatT t = true → (∀ f ∈ fs, f.name ≠ "_") → ∀ (x y : t.D) {xs ys : Array Value}, (∀ (i : Nat) v, (cellsV t x)[i]? = some v → xs[off + i]? = some v) → (∀ (i : Nat) v, (cellsV t y)[i]? = some v → ys[off + i]? = some v) →
    ∀ (d : Nat) (w : World), (Op.eqFields (d + 1) xs ys fs).run P w = .ok (eqT t x y) w := by
  have one : ∀ {t : Ty} {f : Field} {off : Nat}, f.offset = off → tt.shape f.type = some t → flatT t = true → f.name ≠ "_" → ∀ (x y : t.D) {xs ys : Array Value}, (∀ (i : Nat) v, (cellsV t x)[i]? = some v → xs[off + i]? = some v) → (∀ (i : Nat) v, (cellsV t y)[i]? = some v → ys[off + i]? = some v) →
      ∀ (d : Nat) (w : World) (fs : List Field), (Op.eqFields (d + 1) xs ys (f :: fs)).run P w = (if (!eqT t x y) = true then (pure false : Sem Bool) else Op.eqFields (d + 1) xs ys fs).run P w := by
    intro t f off ho hs hf hn x y xs ys hx hy d w fs
    subst ho
    simp only [Op.eqFields, hn, ne_eq, not_false_eq_true, if_true]
    exact leaf_eq hc hs hf x y hx hy d w fun r => if (!r) = true then pure false else Op.eqFields (d + 1) xs ys fs
  intro t fs
  induction fs generalizing t with
  | nil =>
    intro off h hf hn x y xs ys hx hy d w
    cases t <;> simp [fldsB] at h
    rfl
  | cons f r ih =>
    intro off h hf hn x y xs ys hx hy d w
    cases r with
    | nil =>
      have h' : f.offset = off ∧ tt.shape f.type = some t := by
        cases t <;> simpa [fldsB] using h
      rw [one h'.1 h'.2 hf (hn f (by simp)) x y hx hy d w]
      cases eqT t x y <;> simp [Op.eqFields]
    | cons g r =>
      cases t with
      | pair a b =>
        simp only [fldsB, Bool.and_eq_true, decide_eq_true_eq] at h
        simp only [flatT, Bool.and_eq_true] at hf
        have hlen : ∀ (z : a.D), (cellsV a z).length = a.sz := by
          have key : ∀ (t : Ty), flatT t = true → ∀ z : t.D, (cellsV t z).length = t.sz := by
            intro t
            induction t with
            | pair a b iha ihb => intro h z; simp only [flatT, Bool.and_eq_true] at h; simp [cellsV, Ty.sz, iha h.1, ihb h.2]
            | int k => intro _ _; rfl
            | bool => intro _ _; rfl
            | str => intro _ _; rfl
            | unit => intro _ _; rfl
            | _ => intro h; simp [flatT] at h
          exact key a hf.1
        rw [one h.1 h.2.1 hf.1 (hn f (by simp)) x.1 y.1 (fun i v hv => hx i v (by simp only [cellsV]; rw [List.getElem?_append_left (List.getElem?_eq_some_iff.1 hv).1]; exact hv)) (fun i v hv => hy i v (by simp only [cellsV]; rw [List.getElem?_append_left (List.getElem?_eq_some_iff.1 hv).1]; exact hv)) d w]
        have hr := ih (t := b) h.2.2 hf.2 (fun z hz => hn z (by simp only [List.mem_cons] at hz ⊢; exact .inr hz)) x.2 y.2 (xs := xs) (ys := ys) (fun i v hv => by
          have := hx (a.sz + i) v (by simp only [cellsV]; rw [List.getElem?_append_right (by rw [hlen]; omega), hlen, show a.sz + i - a.sz = i by omega]; exact hv)
          rw [← this]; congr 1; omega) (fun i v hv => by
          have := hy (a.sz + i) v (by simp only [cellsV]; rw [List.getElem?_append_right (by rw [hlen]; omega), hlen, show a.sz + i - a.sz = i by omega]; exact hv)
          rw [← this]; congr 1; omega) d w
        cases h1 : eqT a x.1 y.1 with
        | false => simp [eqT, h1]
        | true => simp only [Bool.not_true, Bool.false_eq_true, if_false, hr]; simp [eqT, h1]
      | _ => simp [fldsB] at h
end

theorem ttok_of {P : Program} {X : Tables} (h : chkAll P X = true) : TTok P X.tt := by
  unfold chkAll at h
  simp only [Bool.and_eq_true] at h
  obtain ⟨h1, h2, h3, h4, h5⟩ := h
  have hc : ∀ T t, X.tt.shape T = some t → chkT P X.tt T t = true := fun T t hs => List.all_eq_true.1 h1 (T, t) (assoc_mem hs)
  have hfl : ∀ T f o t, X.tt.field T f = some (o, t) → ∃ fs t0 fd, P.underlying T = some (.struct fs) ∧ X.tt.shape T = some t0 ∧ fs[f]? = some fd ∧ fd.offset = o ∧ X.tt.shape fd.type = some t ∧ o + t.sz ≤ t0.sz := by
    intro T f o t hfd
    simp only [Tables.tt] at hfd
    split at hfd
    · rename_i l hl
      have hk := List.all_eq_true.1 h3 (T, l) (assoc_mem hl)
      unfold chkF at hk
      split at hk
      · rename_i fs t0 e1 e2
        rw [nth?_eq] at hfd
        have hlt : f < l.length := (List.getElem?_eq_some_iff.1 hfd).1
        have := List.all_eq_true.1 hk f (List.mem_range.2 hlt)
        simp only at this
        rw [hfd] at this
        split at this
        · rename_i o' t' fd e3 e4
          simp at e3
          obtain ⟨rfl, rfl⟩ := e3
          simp only [Bool.and_eq_true, decide_eq_true_eq] at this
          exact ⟨fs, t0, fd, e1, e2, e4, this.1, this.2.1, this.2.2⟩
        · cases this
      · cases hk
    · cases hfd
  have hel : ∀ T e, X.tt.elem T = some e → P.underlying T = some (.slice e) := fun T e he => by
    have := List.all_eq_true.1 h2 (T, e) (assoc_mem he)
    simp only at this
    split at this
    · rename_i e' h'
      simp at this; subst this; exact h'
    · cases this
  refine ⟨fun T t hs => chkT_info (hc T t hs), fun T t hs => chk_agg (hc T t hs), fun T t hs => chkT_top (hc T t hs), fun T k hs => chk_int (hc T _ hs), fun T hs => chk_str (hc T _ hs), fun T hs => chk_bool (hc T _ hs), fun T e t hs => (chk_slice (hc T _ hs)).2,
    fun T t hs => by obtain ⟨fs, h', _⟩ := chk_st (hc T _ hs); exact ⟨fs, h'⟩, hel, fun T f o t hf => ?_, fun T t fs hs hu f hf => ?_, fun T f o t t0 hf hs => ?_, fun T hT => ?_, fun T t hT hs => ?_⟩
  · obtain ⟨fs, t0, fd, e1, _, e3, e4, e5, _⟩ := hfl T f o t hf
    exact ⟨fs, fd, e1, e3, e4, e5⟩
  · have := hc T t hs
    rcases chk_no this with ⟨k, rfl⟩ | rfl | rfl | ⟨e, t', rfl⟩ | ⟨t', rfl⟩
    · rw [chk_int this] at hu; cases hu
    · rw [chk_bool this] at hu; cases hu
    · rw [chk_str this] at hu; cases hu
    · rw [(chk_slice this).1] at hu; cases hu
    · obtain ⟨fs', h6, h7, _⟩ := chk_st this
      rw [h6] at hu
      simp at hu; subst hu
      exact h7 f hf
  · obtain ⟨fs, t1, fd, _, e2, _, _, _, e6⟩ := hfl T f o t hf
    rw [hs] at e2
    simp at e2; subst e2
    exact e6
  · simp only [Tables.tt] at hT
    obtain ⟨u, hu⟩ := Option.isSome_iff_exists.1 hT
    have := List.all_eq_true.1 h4 (T, u) (assoc_mem hu)
    simp only at this
    split at this
    · rename_i e he; exact ⟨e, he⟩
    · cases this
  · simp only [Tables.tt] at hT
    obtain ⟨u, hu⟩ := Option.isSome_iff_exists.1 hT
    have := List.all_eq_true.1 h5 (T, u) (assoc_mem hu)
    unfold chkC at this
    split at this
    · rename_i fs t' e1 e2
      rw [show X.tt.shape T = some t from hs] at e2
      simp at e2; subst e2
      simp only [Bool.and_eq_true, Bool.not_eq_true'] at this
      obtain ⟨f1, f2, f3, f4, f5⟩ := this
      refine ⟨flds_len (t := t') f2 f1, fun x y w => ⟨?_, fun op a b => run_eqGuard_agg w op T a b _ _ f5⟩⟩
      have hfo : P.fieldsOf T = fs := by unfold Program.fieldsOf; rw [e1]
      have := run_equalIn_struct (P := P) w 9999 T (cellsV t' x).toArray (cellsV t' y).toArray (by rw [hfo]; exact e1) f4
      refine Eq.trans (b := (Op.eqFields 9999 (cellsV t' x).toArray (cellsV t' y).toArray fs.toList).run P w) (by rw [hfo] at this; exact this) ?_
      exact eqFields_flat hc (t := t') (d := 9998) f2 f1 (fun f hf => by simpa using List.all_eq_true.1 f3 f hf) x y (fun i v hv => by simpa using hv) (fun i v hv => by simpa using hv) w
    · cases this

theorem chk_of {P : Program} {X : Tables} (h : chkAll P X = true) (T : TypeId) (t : Ty) (hs : X.tt.shape T = some t) : chkT P X.tt T t = true := by
  unfold chkAll at h
  simp only [Bool.and_eq_true] at h
  exact List.all_eq_true.1 h.1 (T, t) (assoc_mem hs)
theorem body_of {P : Program} {bodies : List (Nat × Func)} {ns : List Nat} (h1 : bodies = ns.map fun n => (n, (P.funcs[n]?).getD default)) (h2 : ns.all (fun n => decide (n < P.funcs.size)) = true) (h3 : bodies.all (fun p => !(p.2.name == "runtime.NumGoroutine")) = true) :
    ∀ f fn, assoc bodies f = some fn → P.funcs[f]? = some fn ∧ (fn.name == "runtime.NumGoroutine") = false := by
  intro f fn h
  have hm := assoc_mem h
  refine ⟨?_, by simpa using List.all_eq_true.1 h3 (f, fn) hm⟩
  rw [h1] at hm
  obtain ⟨n, hn, e⟩ := List.mem_map.1 hm
  simp at e
  obtain ⟨rfl, rfl⟩ := e
  have hlt : n < P.funcs.size := by simpa using List.all_eq_true.1 h2 n hn
  rw [Array.getElem?_eq_getElem hlt]
  rfl
end Go.Proofs.Ytgnnljpdcafdkaa.Ev
