/- A part of a proof: an evaluator of the program's functions over plain values, and what it shows. -/
import Derived.Test.YtgnnljpdcafdkaaEv3
set_option linter.unusedVariables false
set_option linter.unusedSimpArgs false
set_option linter.unusedSectionVars false
/- Regions in any order: what an operation comes to hangs on what it looks at alone; operations that are apart change places. -/
namespace Go.Proofs.Ytgnnljpdcafdkaa.Ev
open Go

/-! ### What an operation hangs on -/
section
variable {R : Type} {E : Env} {look : Nat → Obj} {base : Nat} {lv lv' : Operand → LV}

theorem lvs_congr : ∀ {xs : List Operand}, (∀ x ∈ xs, lv x = lv' x) → lvs lv xs = lvs lv' xs
  | [], _ => rfl
  | x :: r, h => by simp only [lvs]; rw [h x (by simp), lvs_congr fun y hy => h y (by simp [hy])]
theorem lvP_congr : ∀ {xs : List (Nat × Operand)}, (∀ x ∈ xs.map (·.2), lv x = lv' x) → aopK.lvP lv xs = aopK.lvP lv' xs
  | [], _ => rfl
  | (i, x) :: r, h => by simp only [aopK.lvP]; rw [h x (by simp), lvP_congr fun y hy => h y (by simp only [List.map_cons, List.mem_cons]; exact .inr hy)]
theorem placeP_congr {T : TypeId} : ∀ {xs : List (Nat × Operand)}, (∀ x ∈ xs.map (·.2), lv x = lv' x) → aopK.placeP E lv T xs = aopK.placeP E lv' T xs
  | [], _ => rfl
  | (i, x) :: r, h => by
    simp only [aopK.placeP]
    rw [h x (by simp), placeP_congr fun y hy => h y (by simp only [List.map_cons, List.mem_cons]; exact .inr hy)]
theorem orefs_congr : ∀ {xs : List Operand}, (∀ x ∈ xs, lv x = lv' x) → orefs lv xs = orefs lv' xs
  | [], _ => rfl
  | x :: r, h => by simp only [orefs]; rw [h x (by simp), orefs_congr fun y hy => h y (by simp [hy])]

theorem aopK_congr {o : Op} {K : LV → List (Nat × Obj) → Option R} (h : ∀ x ∈ o.operands, lv x = lv' x) : aopK E look base lv o K = aopK E look base lv' o K := by
  cases o with
  | build T parts =>
    simp only [Op.operands] at h
    simp only [aopK]
    rw [placeP_congr (lv := lv) (lv' := lv') fun x hx => h x (by simpa using hx)]
  | buildSlice T n parts =>
    simp only [Op.operands] at h
    simp only [aopK]
    rw [lvP_congr (lv := lv) (lv' := lv') fun x hx => h x (by simpa using hx)]
  | makeFunc fn first caps =>
    simp only [Op.operands] at h
    simp only [aopK]
    rw [lvs_congr (lv := lv) (lv' := lv') fun x hx => h x (by simp at hx ⊢; exact .inr hx)]
  | slice T x lo hi mx =>
    simp only [Op.operands] at h
    simp only [aopK]
    have h1 : lv x = lv' x := h x (by simp)
    have h2 : lo.map lv = lo.map lv' := by
      cases lo with
      | none => rfl
      | some y => simp only [Option.map_some]; rw [h y (by simp)]
    have h3 : hi.map lv = hi.map lv' := by
      cases hi with
      | none => rfl
      | some y => simp only [Option.map_some]; rw [h y (by simp)]
    rw [h1, h2, h3]
    generalize one (lv' x) = A
    generalize intOf? (lo.map lv') = B
    generalize intOf? (hi.map lv') = C
    cases A with
    | none => rfl
    | some c =>
      cases B with
      | none => cases c <;> rfl
      | some l =>
        cases C with
        | none => cases c <;> rfl
        | some hh =>
          cases mx with
          | none => cases c <;> rfl
          | some m => have hm := h m (by simp); cases c <;> simp only [hm]
  | call c =>
    simp only [Op.operands] at h
    simp only [aopK]
    have h1 : lvs lv c.args.toList = lvs lv' c.args.toList := lvs_congr fun x hx => h x (by simp at hx; simp [Call.operands, hx])
    rw [h1]
    split
    · rfl
    · rename_i f hc
      rw [h f (by simp [Call.operands, hc])]
    · rfl
  | _ => simp only [Op.operands] at h; simp only [aopK] <;> simp_all

theorem refs2_congr {look' : Nat → Obj} : ∀ {ids : List Nat}, (∀ i ∈ ids, look i = look' i) → refs2 look ids = refs2 look' ids
  | [], _ => rfl
  | i :: r, h => by simp only [refs2]; rw [h i (by simp), refs2_congr fun j hj => h j (by simp [hj])]
theorem tids_congr {look' : Nat → Obj} {o : Op} (h : ∀ x ∈ o.operands, lv x = lv' x) (hl : ∀ i ∈ tids lv look o, look i = look' i) : tids lv look o = tids lv' look' o := by
  have hr : orefs lv o.operands.toList = orefs lv' o.operands.toList := orefs_congr fun x hx => h x (by simpa using hx)
  unfold tids at hl ⊢
  split
  · rfl
  · exact hr
  · rename_i h0 h1
    have : refs2 look (orefs lv o.operands.toList) = refs2 look' (orefs lv' o.operands.toList) := by
      rw [← hr]
      refine refs2_congr fun i hi => hl i ?_
      split
      · exact absurd (by assumption) h0
      · exact hi
      · rw [app_eq]; simp [hi]
    rw [this, hr]
theorem rst_congr {look' : Nat → Obj} {ids : List Nat} (h : ∀ i ∈ ids, look i = look' i) : rst look ids = rst look' ids := by
  funext i
  unfold rst
  split
  · rename_i hm; exact h i ((nmem_iff _ _).1 hm)
  · rfl

theorem tmpsOf_mem {xs : List Operand} {t : Nat} (h : .tmp t ∈ xs) : t ∈ tmpsOf xs := by
  induction xs with
  | nil => simp at h
  | cons x r ih =>
    rcases List.mem_cons.1 h with e | h'
    · subst e; simp [tmpsOf]
    · have := ih h'
      cases x <;> simp [tmpsOf, this]

/-- two states that agree on what an operation looks at -/
theorem step_congr {st st' : St} {o : Op} {K : LV → List (Nat × Obj) → Option R} (hF : ∀ t ∈ tmpsOf o.operands.toList, fget st.F t = fget st'.F t) (hH : ∀ i ∈ tids (opv st.F) (hget st.H) o, hget st.H i = hget st'.H i) :
    aopK E (rst (hget st.H) (tids (opv st.F) (hget st.H) o)) base (opv st.F) o K = aopK E (rst (hget st'.H) (tids (opv st'.F) (hget st'.H) o)) base (opv st'.F) o K := by
  have ho : ∀ x ∈ o.operands, opv st.F x = opv st'.F x := fun x hx => by
    cases x with
    | tmp t => exact hF t (tmpsOf_mem (by simpa using hx))
    | _ => rfl
  rw [← tids_congr ho hH, rst_congr hH]
  exact aopK_congr ho
end

/-! ### The trace -/
structure Tr where
  i : Nat
  o : Oper
  anc : List Nat
  ex : Bool
  v : LV
  us : List (Nat × Obj)
  rd : List Nat
  looks : List Nat

def Tr.eff (t : Tr) : Eff := ⟨t.i, t.anc, t.looks, t.o.dst, t.rd, upIds t.us⟩
def upd (st : St) (t : Tr) : St := ⟨putDst st.F t.o.dst t.v, hputs st.H t.us, st.pins⟩

def GuardV (all : List Oper) (o : Oper) (F : List LV) (b : Bool) : Prop :=
  match o.guard with
  | none => b = true
  | some (j, want) => ∃ d, dstOf all j = some d ∧ ((∃ c : Bool, fget F d = .v false [.bool c] ∧ b = (c == want)) ∨ (fget F d = .v false [.undef] ∧ b = false))

theorem guardK_abs {R : Type} {all : List Oper} {o : Oper} {st : St} {yes no : St → Option R} {r : R} (h : guardK all o st yes no = some r) : ∃ b, GuardV all o st.F b ∧ (if b = true then yes st = some r else no st = some r) := by
  unfold guardK at h
  unfold GuardV
  split at h
  · rename_i hg; exact ⟨true, by rw [hg], h⟩
  · rename_i j want hg
    rw [hg]
    split at h
    · rename_i d hd
      split at h
      · rename_i b hb
        have hF : (⟨fput st.F d (.c (.bool b)), st.H, st.pins⟩ : St) = st := by
          have := fput_fget st.F d
          rw [hb] at this
          rw [this]
        refine ⟨b == want, ⟨d, hd, .inl ⟨b, hb, rfl⟩⟩, ?_⟩
        cases b <;> cases want <;> simp_all
      · rename_i hb
        exact ⟨false, ⟨d, hd, .inr ⟨hb, rfl⟩⟩, by simpa using h⟩
      · cases h
    · cases h

theorem GuardV.wanted {S : Sta} {G : Gh} {all : List Oper} {o : Oper} {F : List LV} {b : Bool} (h : GuardV all o F b) {a : Act} (hv : VF S G F a.tmps.toList) : Region.wanted o (yielded all.toArray a.tmps) = b := by
  unfold GuardV at h
  unfold Region.wanted
  split at h
  · rename_i hg; rw [hg, h]
  · rename_i j want hg
    rw [hg]
    obtain ⟨d, hd, h⟩ := h
    rcases h with ⟨c, hc, rfl⟩ | ⟨hc, rfl⟩
    · simp only [yielded_bool hv hd hc]
      cases c <;> cases want <;> rfl
    · simp only [yielded_undef hv hd hc]
      rfl

/-- what the trace holds of one operation, at its place in the text -/
structure Good (E : Env) (all : List Oper) (base0 : Nat) (st0 : St) (tr : List Tr) (k : Nat) (t : Tr) : Prop where
  i : t.i = k
  anc : ∀ x ∈ t.anc, ∃ e ∈ t.o.after.toList, Region.binds .any e = true ∧ (x = e.on ∨ ∃ s, tr[e.on]? = some s ∧ x ∈ s.anc)
  aft : ∀ e ∈ t.o.after.toList, Region.binds .any e = true → e.on < k ∧ e.on ∈ t.anc
  ap : ∀ (j : Nat) (s : Tr), j < k → tr[j]? = some s → s.i ∈ t.anc ∨ apartE s.eff t.eff = true
  ids : ∀ n ∈ upIds t.us, n < base0 ∨ (n - base0) / 32 = k ∨ (n - base0) / 32 ∈ t.anc
  gd : GuardV all t.o ((tr.take k).foldl upd st0).F t.ex
  lkG : ∀ j want d, t.o.guard = some (j, want) → dstOf all j = some d → d ∈ t.looks
  lkT : t.ex = true → ∀ x ∈ tmpsOf t.o.op.operands.toList, x ∈ t.looks
  run : t.ex = true → t.rd = tids (opv ((tr.take k).foldl upd st0).F) (hget ((tr.take k).foldl upd st0).H) t.o.op ∧
    aopK E (rst (hget ((tr.take k).foldl upd st0).H) t.rd) (base0 + 32 * k) (opv ((tr.take k).foldl upd st0).F) t.o.op (fun v us => some (v, us)) = some (t.v, t.us)
  skip : t.ex = false → t.v = .c .undef ∧ t.us = []

theorem ancOf_find {effs : List Eff} {n : Nat} {a : List Nat} (h : ancOf.find n effs = some a) : ∃ e ∈ effs, e.i = n ∧ e.anc = a := by
  induction effs with
  | nil => simp [ancOf.find] at h
  | cons e r ih =>
    unfold ancOf.find at h
    split at h
    · rename_i hi; simp at h; exact ⟨e, by simp, hi, h⟩
    · obtain ⟨e', h1, h2⟩ := ih h; exact ⟨e', by simp [h1], h2⟩
theorem ancOf_spec {k : Nat} {effs : List Eff} : ∀ {es : List Edge} {anc : List Nat}, ancOf k effs es = some anc →
    (∀ x ∈ anc, ∃ e ∈ es, Region.binds .any e = true ∧ (x = e.on ∨ ∃ f ∈ effs, f.i = e.on ∧ x ∈ f.anc)) ∧ ∀ e ∈ es, Region.binds .any e = true → e.on ∈ anc ∧ ∃ f ∈ effs, f.i = e.on
  | [], anc, h => by simp [ancOf] at h; subst h; exact ⟨fun x hx => by simp at hx, fun e he => by simp at he⟩
  | e :: r, anc, h => by
    unfold ancOf at h
    split at h
    · rename_i l hl
      obtain ⟨k1, k2⟩ := ancOf_spec hl
      split at h
      · rename_i hb
        split at h
        · rename_i a ha
          simp at h; subst h
          obtain ⟨f, f1, f2, f3⟩ := ancOf_find ha
          refine ⟨fun x hx => ?_, fun e' he' hb' => ?_⟩
          · rcases List.mem_cons.1 hx with rfl | hx
            · exact ⟨e, by simp, hb, .inl rfl⟩
            · rw [app_eq] at hx
              rcases List.mem_append.1 hx with hx | hx
              · exact ⟨e, by simp, hb, .inr ⟨f, f1, f2, f3 ▸ hx⟩⟩
              · obtain ⟨e', h1, h2⟩ := k1 x hx
                exact ⟨e', by simp [h1], h2⟩
          · rcases List.mem_cons.1 he' with rfl | he'
            · exact ⟨by simp, f, f1, f2⟩
            · obtain ⟨h1, h2⟩ := k2 e' he' hb'
              exact ⟨by rw [app_eq]; simp [h1], h2⟩
        · cases h
      · rename_i hb
        simp at h; subst h
        refine ⟨fun x hx => ?_, fun e' he' hb' => ?_⟩
        · obtain ⟨e', h1, h2⟩ := k1 x hx
          exact ⟨e', by simp [h1], h2⟩
        · rcases List.mem_cons.1 he' with rfl | he'
          · exact absurd hb' hb
          · exact k2 e' he' hb'
    · cases h
theorem okIds_spec {base0 k : Nat} {anc : List Nat} : ∀ {l : List Nat}, okIds base0 k anc l = true → ∀ n ∈ l, n < base0 ∨ (n - base0) / 32 = k ∨ (n - base0) / 32 ∈ anc
  | [], _, n, hn => by simp at hn
  | m :: r, h, n, hn => by
    unfold okIds at h
    rcases List.mem_cons.1 hn with rfl | hn
    · split at h
      · exact .inl (by assumption)
      · split at h
        · exact .inr (.inl (by assumption))
        · split at h
          · exact .inr (.inr ((nmem_iff _ _).1 (by assumption)))
          · cases h
    · repeat' split at h
      all_goals first | (cases h; done) | exact okIds_spec h n hn
theorem apartAll_spec {b : Eff} : ∀ {effs : List Eff}, apartAll b effs = true → ∀ a ∈ effs, a.i ∈ b.anc ∨ apartE a b = true
  | [], _, a, ha => by simp at ha
  | e :: r, h, a, ha => by
    unfold apartAll at h
    split at h
    · rename_i hm
      rcases List.mem_cons.1 ha with rfl | ha
      · exact .inl ((nmem_iff _ _).1 hm)
      · exact apartAll_spec h a ha
    · split at h
      · rename_i hap
        rcases List.mem_cons.1 ha with rfl | ha
        · exact .inr hap
        · exact apartAll_spec h a ha
      · cases h

theorem gd_mem {all : List Oper} {o : Oper} {j d : Nat} {want : Bool} (h : o.guard = some (j, want)) (hd : dstOf all j = some d) : d ∈ adraw.gd all o := by
  simp [adraw.gd, h, hd, one?]

theorem adraw_trace {R : Type} {E : Env} {all : List Oper} {base0 : Nat} {st0 : St} {K : St → Option R} {r : R} : ∀ (ops : List Oper) (pre : List Tr), (∀ (j : Nat) (s : Tr), pre[j]? = some s → s.i = j) →
    adraw E all base0 ops pre.length (pre.map Tr.eff).reverse (pre.foldl upd st0) K = some r →
    ∃ suf : List Tr, suf.map (·.o) = ops ∧ K ((pre ++ suf).foldl upd st0) = some r ∧ ∀ (k : Nat) (t : Tr), pre.length ≤ k → (pre ++ suf)[k]? = some t → Good E all base0 st0 (pre ++ suf) k t
  | [], pre, _, h => by
    refine ⟨[], rfl, by simpa [adraw] using h, fun k t hk ht => ?_⟩
    rw [List.append_nil, List.getElem?_eq_none hk] at ht
    cases ht
  | o :: rest, pre, hpre, h => by
    unfold adraw at h
    split at h
    · cases h
    · rename_i anc hanc
      have hmem : ∀ f ∈ (pre.map Tr.eff).reverse, ∃ (j : Nat) (s : Tr), j < pre.length ∧ pre[j]? = some s ∧ f = s.eff ∧ s.i = j := fun f hf => by
        rw [List.mem_reverse, List.mem_map] at hf
        obtain ⟨s, hs, rfl⟩ := hf
        obtain ⟨j, hj, hjs⟩ := List.getElem_of_mem hs
        have hj2 : pre[j]? = some s := by rw [List.getElem?_eq_getElem hj, hjs]
        exact ⟨j, s, hj, hj2, rfl, hpre j s hj2⟩
      obtain ⟨c1, c2⟩ := ancOf_spec hanc
      -- one more operation
      have more : ∀ (t : Tr), t.i = pre.length → t.o = o → t.anc = anc → apartAll t.eff (pre.map Tr.eff).reverse = true → (∀ n ∈ upIds t.us, n < base0 ∨ (n - base0) / 32 = pre.length ∨ (n - base0) / 32 ∈ t.anc) → GuardV all o (pre.foldl upd st0).F t.ex →
          (∀ j want d, o.guard = some (j, want) → dstOf all j = some d → d ∈ t.looks) → (t.ex = true → ∀ x ∈ tmpsOf o.op.operands.toList, x ∈ t.looks) →
          (t.ex = true → t.rd = tids (opv (pre.foldl upd st0).F) (hget (pre.foldl upd st0).H) o.op ∧ aopK E (rst (hget (pre.foldl upd st0).H) t.rd) (base0 + 32 * pre.length) (opv (pre.foldl upd st0).F) o.op (fun v us => some (v, us)) = some (t.v, t.us)) →
          (t.ex = false → t.v = .c .undef ∧ t.us = []) → adraw E all base0 rest (pre.length + 1) (t.eff :: (pre.map Tr.eff).reverse) (upd (pre.foldl upd st0) t) K = some r →
          ∃ suf : List Tr, suf.map (·.o) = o :: rest ∧ K ((pre ++ suf).foldl upd st0) = some r ∧ ∀ (k : Nat) (t : Tr), pre.length ≤ k → (pre ++ suf)[k]? = some t → Good E all base0 st0 (pre ++ suf) k t := by
        intro t e1 e2 e3 e4 e5 e6 e7 e8 e9 e10 e11
        obtain ⟨suf, s1, s2, s3⟩ := adraw_trace rest (pre ++ [t]) (fun j s hj => by
          rw [List.getElem?_append] at hj
          split at hj
          · exact hpre j s hj
          · rename_i hlt
            by_cases h0 : j - pre.length = 0
            · rw [h0] at hj
              simp at hj; subst hj
              omega
            · rw [List.getElem?_eq_none (by simp; omega)] at hj
              cases hj) (by
          have l1 : (pre ++ [t]).length = pre.length + 1 := by simp
          have l2 : ((pre ++ [t]).map Tr.eff).reverse = t.eff :: (pre.map Tr.eff).reverse := by simp
          have l3 : (pre ++ [t]).foldl upd st0 = upd (pre.foldl upd st0) t := by simp
          rw [l1, l2, l3]
          exact e11)
        have happ : pre ++ [t] ++ suf = pre ++ (t :: suf) := by simp
        rw [happ] at s2 s3
        refine ⟨t :: suf, by simp [s1, e2], s2, fun k t' hk ht' => ?_⟩
        by_cases hk0 : k = pre.length
        · subst hk0
          have htt : t = t' := by simpa using ht'
          subst htt
          have htake : (pre ++ (t :: suf)).take pre.length = pre := by simp
          have hold : ∀ (j : Nat), j < pre.length → (pre ++ (t :: suf))[j]? = pre[j]? := fun j hj => by rw [List.getElem?_append_left hj]
          refine ⟨e1, fun x hx => ?_, fun e he hb => ?_, fun j s hj hs => ?_, e5, by rw [htake, e2]; exact e6, by rw [e2]; exact e7, by rw [e2]; exact e8, by rw [htake, e2]; exact e9, e10⟩
          · rw [e3] at hx
            obtain ⟨e, k1, k2, k3⟩ := c1 x hx
            refine ⟨e, by rw [e2]; exact k1, k2, ?_⟩
            rcases k3 with k3 | ⟨f, f1, f2, f3⟩
            · exact .inl k3
            · obtain ⟨j, s, g1, g2, g3, g4⟩ := hmem f f1
              refine .inr ⟨s, ?_, by rw [g3] at f3; exact f3⟩
              have : e.on = j := by rw [← f2, g3]; exact g4
              rw [this, hold j g1]; exact g2
          · rw [e2] at he
            obtain ⟨k1, f, f1, f2⟩ := c2 e he hb
            obtain ⟨j, s, g1, g2, g3, g4⟩ := hmem f f1
            have : e.on = j := by rw [← f2, g3]; exact g4
            exact ⟨by omega, by rw [e3]; exact k1⟩
          · rw [hold j hj] at hs
            exact apartAll_spec e4 s.eff (by rw [List.mem_reverse]; exact List.mem_map_of_mem (List.mem_of_getElem? hs))
        · exact s3 k t' (by simp; omega) ht'
      obtain ⟨b, hb, hbr⟩ := guardK_abs h
      cases b with
      | true =>
        rw [if_pos rfl] at hbr
        obtain ⟨v, us, k1, k2⟩ := stepK_some hbr
        simp only at k2
        split at k2
        · rename_i hids
          split at k2
          · rename_i hap
            exact more ⟨pre.length, o, anc, true, v, us, tids (opv (pre.foldl upd st0).F) (hget (pre.foldl upd st0).H) o.op, app (tmpsOf o.op.operands.toList) (adraw.gd all o)⟩ rfl rfl rfl hap (okIds_spec hids) hb (fun j want d hg hd => by simp only [app_eq]; exact List.mem_append_right _ (gd_mem hg hd)) (fun _ x hx => by simp only [app_eq]; exact List.mem_append_left _ hx) (fun _ => ⟨rfl, k1⟩) (fun h => by cases h) k2
          · cases k2
        · cases k2
      | false =>
        rw [if_neg (by simp)] at hbr
        simp only at hbr
        split at hbr
        · rename_i hap
          exact more ⟨pre.length, o, anc, false, .c .undef, [], [], adraw.gd all o⟩ rfl rfl rfl hap (fun n hn => by simp [upIds] at hn) hb (fun j want d hg hd => gd_mem hg hd) (fun h => by cases h) (fun h => by cases h) (fun _ => ⟨rfl, rfl⟩) hbr
        · cases hbr
end Go.Proofs.Ytgnnljpdcafdkaa.Ev

/- Regions in any order, joined. -/
namespace Go.Proofs.Ytgnnljpdcafdkaa.Ev
open Go

structure St.Eqv (a b : St) : Prop where
  F : a.F = b.F
  H : ∀ j, hget a.H j = hget b.H j
  pins : a.pins = b.pins
theorem St.Eqv.refl (a : St) : St.Eqv a a := ⟨rfl, fun _ => rfl, rfl⟩
theorem St.Eqv.trans {a b c : St} (h : St.Eqv a b) (k : St.Eqv b c) : St.Eqv a c := ⟨h.F.trans k.F, fun j => (h.H j).trans (k.H j), h.pins.trans k.pins⟩
theorem Eqv.upd {a b : St} (h : St.Eqv a b) (t : Tr) : St.Eqv (upd a t) (upd b t) := ⟨by simp [Ev.upd, h.F], fun j => hputs_congr t.us h.H j, h.pins⟩
theorem Eqv.foldl : ∀ (l : List Tr) {a b : St}, St.Eqv a b → St.Eqv (l.foldl Ev.upd a) (l.foldl Ev.upd b)
  | [], _, _, h => h
  | t :: r, _, _, h => Eqv.foldl r (Eqv.upd h t)
theorem Sim.eqv {S : Sta} {G : Gh} {a b : St} {pv : List Value} {x : Act} {w : World} (h : Sim S G a pv x w) (e : St.Eqv a b) : Sim S G b pv x w := by
  obtain ⟨own, hh⟩ := h.hp
  exact ⟨e.F ▸ h.fr, h.df, e.pins ▸ h.pins, h.kp, own, hh.congr fun j => (e.H j).symm⟩

theorem fput_comm (v u : LV) : ∀ (F : List LV) (d e : Nat), d ≠ e → fput (fput F d v) e u = fput (fput F e u) d v
  | [], _, _, _ => rfl
  | x :: r, 0, 0, h => absurd rfl h
  | x :: r, 0, e + 1, _ => rfl
  | x :: r, d + 1, 0, _ => rfl
  | x :: r, d + 1, e + 1, h => by simp [fput, fput_comm v u r d e (by omega)]
theorem putDst_comm (v u : LV) (F : List LV) (d e : Option Nat) (h : onot d (one? e) = true) : putDst (putDst F d v) e u = putDst (putDst F e u) d v := by
  cases d with
  | none => rfl
  | some d =>
    cases e with
    | none => rfl
    | some e =>
      refine fput_comm v u F d e fun hde => ?_
      subst hde
      simp [onot, one?, nmem] at h
theorem fget_fput_ne (v : LV) : ∀ (F : List LV) (d x : Nat), d ≠ x → fget (fput F d v) x = fget F x
  | [], _, _, _ => rfl
  | _ :: _, 0, 0, h => absurd rfl h
  | _ :: _, 0, _ + 1, _ => rfl
  | _ :: _, _ + 1, 0, _ => rfl
  | _ :: r, d + 1, x + 1, h => by simp [fput, fget, fget_fput_ne v r d x (by omega)]
theorem fget_fput_congr (v : LV) : ∀ (F F' : List LV) (d x : Nat), F.length = F'.length → fget F x = fget F' x → fget (fput F d v) x = fget (fput F' d v) x
  | [], [], _, _, _, _ => rfl
  | _ :: _, _ :: _, 0, 0, _, _ => rfl
  | _ :: _, _ :: _, 0, _ + 1, _, h => h
  | _ :: _, _ :: _, _ + 1, 0, _, h => h
  | _ :: r, _ :: r', d + 1, x + 1, hl, h => by
    simp [fput, fget] at h ⊢
    exact fget_fput_congr v r r' d x (by simpa using hl) h
  | [], _ :: _, _, _, hl, _ => by simp at hl
  | _ :: _, [], _, _, hl, _ => by simp at hl
theorem fput_len (v : LV) : ∀ (F : List LV) (d : Nat), (fput F d v).length = F.length
  | [], _ => rfl
  | _ :: _, 0 => rfl
  | _ :: r, d + 1 => by simp [fput, fput_len v r d]
theorem putDst_len (v : LV) (F : List LV) (d : Option Nat) : (putDst F d v).length = F.length := by
  cases d with
  | none => rfl
  | some d => exact fput_len v F d

theorem hget_hputs_at : ∀ (us : List (Nat × Obj)) {A B : List Obj} (n : Nat), hget A n = hget B n → hget (hputs A us) n = hget (hputs B us) n
  | [], _, _, _, h => h
  | (i, o) :: r, A, B, n, h => by
    refine hget_hputs_at r n ?_
    rw [hget_hput, hget_hput, h]
theorem hget_hputs_fix : ∀ (us : List (Nat × Obj)) (A B : List Obj) (n : Nat), n ∈ upIds us → hget (hputs A us) n = hget (hputs B us) n
  | [], _, _, _, h => by simp [upIds] at h
  | (i, o) :: r, A, B, n, h => by
    simp only [upIds, List.mem_cons] at h
    by_cases hn : n ∈ upIds r
    · exact hget_hputs_fix r _ _ n hn
    · have : n = i := h.resolve_right hn
      subst this
      exact hget_hputs_at r n (by rw [hget_hput, hget_hput]; simp)
theorem upIds_mem {us : List (Nat × Obj)} {p : Nat × Obj} (h : p ∈ us) : p.1 ∈ upIds us := by
  induction us with
  | nil => simp at h
  | cons q r ih =>
    obtain ⟨i, o⟩ := q
    simp only [upIds, List.mem_cons]
    rcases List.mem_cons.1 h with rfl | h
    · exact .inl rfl
    · exact .inr (ih h)
theorem hget_hputs_none {us : List (Nat × Obj)} {n : Nat} (h : n ∉ upIds us) (H : List Obj) : hget (hputs H us) n = hget H n :=
  hget_hputs_out us H n fun p hp e => h (e ▸ upIds_mem hp)

/-- two operations that are apart change places -/
theorem upd_comm {s t : Tr} (h : apartE s.eff t.eff = true) (st : St) : St.Eqv (upd (upd st s) t) (upd (upd st t) s) := by
  simp only [apartE, Bool.and_eq_true, Tr.eff] at h
  obtain ⟨_, _, h3, _, h5, _⟩ := h
  refine ⟨putDst_comm _ _ _ _ _ h3, fun n => ?_, rfl⟩
  rw [disj_iff] at h5
  simp only [upd]
  by_cases hs : n ∈ upIds s.us
  · rw [hget_hputs_none (h5 n hs), hget_hputs_fix s.us _ (hputs st.H t.us) n hs]
  · rw [hget_hputs_none hs]
    exact hget_hputs_at _ n (hget_hputs_none hs _)

theorem upd_past {t : Tr} : ∀ (l : List Tr), (∀ s ∈ l, apartE t.eff s.eff = true) → ∀ st, St.Eqv (l.foldl upd (upd st t)) (upd (l.foldl upd st) t)
  | [], _, st => St.Eqv.refl _
  | s :: r, h, st => (Eqv.foldl r (upd_comm (h s (by simp)) st)).trans (upd_past r (fun x hx => h x (by simp [hx])) _)

/-! ### What is read hangs on those that write it -/
def wrF (x : Nat) (t : Tr) : Bool := t.o.dst == some x
def wrH (n : Nat) (t : Tr) : Bool := nmem n (upIds t.us)

theorem fget_filter (x : Nat) : ∀ (l : List Tr) {a b : St}, a.F.length = b.F.length → fget a.F x = fget b.F x → fget (l.foldl upd a).F x = fget ((l.filter (wrF x)).foldl upd b).F x
  | [], _, _, _, h => h
  | t :: r, a, b, hl, h => by
    rw [List.filter_cons]
    split
    · refine fget_filter x r (by simp [upd, putDst_len, hl]) ?_
      simp only [upd]
      cases t.o.dst with
      | none => exact h
      | some d => exact fget_fput_congr _ _ _ d x hl h
    · rename_i hw
      refine fget_filter x r (by simp [upd, putDst_len, hl]) ?_
      simp only [upd]
      rw [← h]
      cases hd : t.o.dst with
      | none => rfl
      | some d =>
        refine fget_fput_ne _ _ d x fun e => hw ?_
        simp [wrF, hd, e]
theorem hget_filter (n : Nat) : ∀ (l : List Tr) {a b : St}, hget a.H n = hget b.H n → hget (l.foldl upd a).H n = hget ((l.filter (wrH n)).foldl upd b).H n
  | [], _, _, h => h
  | t :: r, a, b, h => by
    rw [List.filter_cons]
    split
    · exact hget_filter n r (hget_hputs_at t.us n h)
    · rename_i hw
      refine hget_filter n r ?_
      rw [← h]
      exact hget_hputs_none (fun hm => hw ((nmem_iff _ _).2 hm)) _

theorem filter_same {tr : List Tr} {k : Nat} {D W : Tr → Bool} (h1 : ∀ t ∈ tr.take k, W t = true → D t = true) (h2 : ∀ t ∈ tr.drop k, W t = true → D t = false) : (tr.filter D).filter W = (tr.take k).filter W := by
  rw [List.filter_filter]
  conv => lhs; rw [← List.take_append_drop k tr, List.filter_append]
  have e1 : (tr.take k).filter (fun a => W a && D a) = (tr.take k).filter W := List.filter_congr fun t ht => by
    cases hw : W t with
    | false => rfl
    | true => simp [h1 t ht hw]
  have e2 : (tr.drop k).filter (fun a => W a && D a) = [] := by
    rw [List.filter_eq_nil_iff]
    intro t ht
    cases hw : W t with
    | false => simp
    | true => simp [h2 t ht hw]
  rw [e1, e2, List.append_nil]

section
variable {R : Type} {P : Program} {S : Sta} {E : Env} {all : Array Oper} {base0 : Nat} {st0 : St} {tr : List Tr}

def inL (listed : Array Bool) (t : Tr) : Bool := listed.getD t.i false
def stD (tr : List Tr) (st0 : St) (listed : Array Bool) : St := (tr.filter (inL listed)).foldl upd st0

def Closed (tr : List Tr) (listed : Array Bool) : Prop := ∀ (k : Nat) (t : Tr), tr[k]? = some t → listed.getD k false = true → ∀ x ∈ t.anc, listed.getD x false = true

theorem mem_take {t : Tr} {k : Nat} (h : t ∈ tr.take k) : ∃ j, j < k ∧ tr[j]? = some t := by
  obtain ⟨j, hj, e⟩ := List.getElem_of_mem h
  rw [List.getElem_take] at e
  rw [List.length_take] at hj
  exact ⟨j, by omega, by rw [← e]; exact List.getElem?_eq_getElem (by omega)⟩
theorem mem_drop {t : Tr} {k : Nat} (h : t ∈ tr.drop k) : ∃ j, k ≤ j ∧ tr[j]? = some t := by
  obtain ⟨j, hj, e⟩ := List.getElem_of_mem h
  rw [List.getElem_drop] at e
  rw [List.length_drop] at hj
  exact ⟨k + j, by omega, by rw [← e]; exact List.getElem?_eq_getElem (by omega)⟩

variable (hg : ∀ (k : Nat) (t : Tr), tr[k]? = some t → Good E all.toList base0 st0 tr k t)
include hg

theorem anc_in {listed : Array Bool} (hc : Closed tr listed) {k : Nat} {t : Tr} (ht : tr[k]? = some t) (haft : ∀ e ∈ t.o.after.toList, Region.binds .any e = true → listed.getD e.on false = true) : ∀ x ∈ t.anc, listed.getD x false = true := by
  intro x hx
  obtain ⟨e, h1, h2, h3⟩ := (hg k t ht).anc x hx
  rcases h3 with rfl | ⟨s, h4, h5⟩
  · exact haft e h1 h2
  · exact hc e.on s h4 (haft e h1 h2) x h5

/-- those ahead in the text that are not done, and those behind it that are, are apart -/
theorem apart_before {listed : Array Bool} {k : Nat} {t : Tr} (ht : tr[k]? = some t) (hanc : ∀ x ∈ t.anc, listed.getD x false = true) {s : Tr} (hs : s ∈ tr.take k) (hd : inL listed s = false) : apartE s.eff t.eff = true := by
  obtain ⟨j, hj, hjs⟩ := mem_take hs
  have hi := (hg j s hjs).i
  rcases (hg k t ht).ap j s hj hjs with h | h
  · have := hanc _ h
    unfold inL at hd
    rw [this] at hd; cases hd
  · exact h
theorem apart_behind {listed : Array Bool} (hc : Closed tr listed) {k : Nat} {t : Tr} (ht : tr[k]? = some t) (hun : listed.getD k false = false) {s : Tr} (hs : s ∈ tr.drop (k + 1)) (hd : inL listed s = true) : apartE t.eff s.eff = true := by
  obtain ⟨j, hj, hjs⟩ := mem_drop hs
  have hi := (hg j s hjs).i
  have hti := (hg k t ht).i
  rcases (hg j s hjs).ap k t (by omega) ht with h | h
  · unfold inL at hd
    rw [hi] at hd
    have := hc j s hjs hd _ h
    rw [hti, hun] at this; cases this
  · exact h

theorem drop_succ {k : Nat} {t : Tr} (ht : tr[k]? = some t) : tr.drop k = t :: tr.drop (k + 1) := by
  have hlt : k < tr.length := (List.getElem?_eq_some_iff.1 ht).1
  rw [List.drop_eq_getElem_cons hlt]
  congr 1
  exact (List.getElem?_eq_some_iff.1 ht).2

theorem apart_slot {s t : Tr} (h : apartE s.eff t.eff = true) : (∀ d, s.o.dst = some d → d ∉ t.looks) ∧ (∀ d, t.o.dst = some d → d ∉ s.looks) ∧ (∀ n ∈ upIds s.us, n ∉ t.rd) ∧ ∀ n ∈ upIds t.us, n ∉ s.rd := by
  simp only [apartE, Bool.and_eq_true, Tr.eff] at h
  obtain ⟨h1, h2, _, h4, _, h6⟩ := h
  rw [disj_iff] at h4 h6
  refine ⟨fun d hd hm => ?_, fun d hd hm => ?_, h4, h6⟩
  · rw [hd] at h1; simp [onot, (nmem_iff _ _).2 hm] at h1
  · rw [hd] at h2; simp [onot, (nmem_iff _ _).2 hm] at h2

/-- what is looked at reads as in the order of the text -/
theorem look_slot {listed : Array Bool} (hc : Closed tr listed) {k : Nat} {t : Tr} (ht : tr[k]? = some t) (hun : listed.getD k false = false) (hanc : ∀ x ∈ t.anc, listed.getD x false = true) {x : Nat} (hx : x ∈ t.looks) :
    fget (stD tr st0 listed).F x = fget ((tr.take k).foldl upd st0).F x := by
  unfold stD
  rw [fget_filter x (tr.filter (inL listed)) (b := st0) rfl rfl, fget_filter x (tr.take k) (b := st0) rfl rfl]
  rw [filter_same (k := k) (D := inL listed) (W := wrF x)]
  · intro s hs hw
    cases hd : inL listed s with
    | true => rfl
    | false =>
      have := (apart_slot hg (apart_before hg ht hanc hs hd)).1 x (by simpa [wrF] using hw)
      exact absurd hx this
  · intro s hs hw
    rw [drop_succ hg ht] at hs
    rcases List.mem_cons.1 hs with rfl | hs
    · unfold inL; rw [(hg k s ht).i]; exact hun
    · cases hd : inL listed s with
      | false => rfl
      | true =>
        have := (apart_slot hg (apart_behind hg hc ht hun hs hd)).2.1 x (by simpa [wrF] using hw)
        exact absurd hx this
theorem look_obj {listed : Array Bool} (hc : Closed tr listed) {k : Nat} {t : Tr} (ht : tr[k]? = some t) (hun : listed.getD k false = false) (hanc : ∀ x ∈ t.anc, listed.getD x false = true) {n : Nat} (hx : n ∈ t.rd) :
    hget (stD tr st0 listed).H n = hget ((tr.take k).foldl upd st0).H n := by
  unfold stD
  rw [hget_filter n (tr.filter (inL listed)) (b := st0) rfl, hget_filter n (tr.take k) (b := st0) rfl]
  rw [filter_same (k := k) (D := inL listed) (W := wrH n)]
  · intro s hs hw
    cases hd : inL listed s with
    | true => rfl
    | false =>
      have := (apart_slot hg (apart_before hg ht hanc hs hd)).2.2.1 n ((nmem_iff _ _).1 hw)
      exact absurd hx this
  · intro s hs hw
    rw [drop_succ hg ht] at hs
    rcases List.mem_cons.1 hs with rfl | hs
    · unfold inL; rw [(hg k s ht).i]; exact hun
    · cases hd : inL listed s with
      | false => rfl
      | true =>
        have := (apart_slot hg (apart_behind hg hc ht hun hs hd)).2.2.2 n ((nmem_iff _ _).1 hw)
        exact absurd hx this

theorem stD_set {listed : Array Bool} (hc : Closed tr listed) {k : Nat} {t : Tr} (ht : tr[k]? = some t) (hun : listed.getD k false = false) (hlt : k < listed.size) : St.Eqv (upd (stD tr st0 listed) t) (stD tr st0 (listed.setIfInBounds k true)) := by
  have hti := (hg k t ht).i
  have hne : ∀ s, s.i ≠ k → inL (listed.setIfInBounds k true) s = inL listed s := fun s hs => getD_set_ne false (Ne.symm hs)
  have hin : inL (listed.setIfInBounds k true) t = true := by
    unfold inL; rw [hti]; simp [hlt]
  have hout : inL listed t = false := by unfold inL; rw [hti]; exact hun
  have e1 : (tr.take k).filter (inL (listed.setIfInBounds k true)) = (tr.take k).filter (inL listed) := List.filter_congr fun s hs => by
    obtain ⟨j, hj, hjs⟩ := mem_take hs
    exact hne s (by rw [(hg j s hjs).i]; omega)
  have e2 : (tr.drop (k + 1)).filter (inL (listed.setIfInBounds k true)) = (tr.drop (k + 1)).filter (inL listed) := List.filter_congr fun s hs => by
    obtain ⟨j, hj, hjs⟩ := mem_drop hs
    exact hne s (by rw [(hg j s hjs).i]; omega)
  have f1 : tr.filter (inL listed) = (tr.take k).filter (inL listed) ++ (tr.drop (k + 1)).filter (inL listed) := by
    conv => lhs; rw [← List.take_append_drop k tr, List.filter_append, drop_succ hg ht, List.filter_cons, hout]
    rfl
  have f2 : tr.filter (inL (listed.setIfInBounds k true)) = (tr.take k).filter (inL listed) ++ (t :: (tr.drop (k + 1)).filter (inL listed)) := by
    conv => lhs; rw [← List.take_append_drop k tr, List.filter_append, drop_succ hg ht, List.filter_cons, hin, if_pos rfl, e1, e2]
  unfold stD
  rw [f1, f2, List.foldl_append, List.foldl_append, List.foldl_cons]
  have := upd_past (t := t) ((tr.drop (k + 1)).filter (inL listed)) (fun s hs => by
    obtain ⟨h1, h2⟩ := List.mem_filter.1 hs
    exact apart_behind hg hc ht hun h1 h2) (((tr.take k).filter (inL listed)).foldl upd st0)
  exact ⟨this.F.symm, fun j => (this.H j).symm, this.pins.symm⟩

theorem free_own {listed : Array Bool} (hc : Closed tr listed) (hb : llen st0.H ≤ base0) {k : Nat} (hun : listed.getD k false = false) {n : Nat} (h1 : base0 + 32 * k ≤ n) (h2 : n < base0 + 32 * k + 32) : hget (stD tr st0 listed).H n = .free := by
  unfold stD
  have key : ∀ (l : List Tr) (st : St), (∀ s ∈ l, n ∉ upIds s.us) → hget st.H n = .free → hget (l.foldl upd st).H n = .free := by
    intro l
    induction l with
    | nil => intro st _ h; exact h
    | cons s r ih => intro st hs h; exact ih _ (fun x hx => hs x (by simp [hx])) (by simp only [upd]; rw [hget_hputs_none (hs s (by simp))]; exact h)
  refine key _ _ (fun s hs hm => ?_) (hget_big _ _ (by omega))
  obtain ⟨h3, h4⟩ := List.mem_filter.1 hs
  obtain ⟨j, hj, e⟩ := List.getElem_of_mem h3
  have hjs : tr[j]? = some s := by rw [List.getElem?_eq_getElem hj, e]
  have hdiv : (n - base0) / 32 = k := by omega
  unfold inL at h4
  rw [(hg j s hjs).i] at h4
  rcases (hg j s hjs).ids n hm with h | h | h
  · omega
  · rw [hdiv] at h
    subst h
    rw [hun] at h4; cases h4
  · rw [hdiv] at h
    have := hc j s hjs h4 k h
    rw [hun] at this; cases this
end
end Go.Proofs.Ytgnnljpdcafdkaa.Ev

/- Regions in any order: the machine's way. -/
namespace Go.Proofs.Ytgnnljpdcafdkaa.Ev
open Go

def unl (listed : Array Bool) : Nat := (listed.toList.filter (!·)).length
theorem unl_list : ∀ (l : List Bool) (i : Nat), l[i]? = some false → ((l.set i true).filter (!·)).length + 1 = (l.filter (!·)).length
  | [], _, h => by simp at h
  | b :: r, 0, h => by simp at h; subst h; simp
  | b :: r, i + 1, h => by
    have := unl_list r i (by simpa using h)
    cases b <;> simp [List.filter_cons] <;> omega
theorem getD_false {listed : Array Bool} {i : Nat} (hlt : i < listed.size) (h : listed.getD i true = false) : listed[i]? = some false ∧ listed.getD i false = false := by
  rw [Array.getD_eq_getD_getElem?] at h ⊢
  rw [Array.getElem?_eq_getElem hlt] at h ⊢
  simp at h
  simp [h]
theorem unl_set {listed : Array Bool} {i : Nat} (hlt : i < listed.size) (h : listed.getD i true = false) : unl (listed.setIfInBounds i true) + 1 = unl listed := by
  unfold unl
  rw [Array.toList_setIfInBounds]
  exact unl_list _ i (by rw [Array.getElem?_toList]; exact (getD_false hlt h).1)

section
variable {R : Type} {P : Program} {S : Sta} {E : Env} {all : Array Oper} {base0 : Nat} {st0 : St} {tr : List Tr}

theorem all_listed (hg : ∀ (k : Nat) (t : Tr), tr[k]? = some t → Good E all.toList base0 st0 tr k t) (htr : tr.map (·.o) = all.toList) {listed : Array Bool} (hsz : listed.size = all.size) (hr : Region.ready .any all listed = []) : ∀ k, k < all.size → listed.getD k false = true := by
  intro k
  induction k using Nat.strongRecOn with
  | _ k ih =>
    intro hk
    cases hd : listed.getD k false with
    | true => rfl
    | false =>
      exfalso
      have hlen : tr.length = all.size := by have := congrArg List.length htr; simpa using this
      have hkt : k < tr.length := by omega
      have ht : tr[k]? = some tr[k] := List.getElem?_eq_getElem hkt
      have hG := hg k _ ht
      have ho : all[k]? = some tr[k].o := by
        have := congrArg (·[k]?) htr
        simp [ht] at this
        rw [← this]
      have hmem : k ∈ Region.ready .any all listed := by
        rw [mem_ready]
        refine ⟨?_, tr[k].o, ho, fun e he hb => ?_⟩
        · rw [Array.getD_eq_getD_getElem?, Array.getElem?_eq_getElem (by omega)] at hd ⊢
          simpa using hd
        · obtain ⟨h1, _⟩ := hG.aft e (by simpa using he) hb
          exact ih e.on h1 (by omega)
      rw [hr] at hmem
      simp at hmem

theorem any_walk (ok : EnvOk P E) (hF : S.FrOk) (hg : ∀ (k : Nat) (t : Tr), tr[k]? = some t → Good E all.toList base0 st0 tr k t) (htr : tr.map (·.o) = all.toList) (hbase : llen st0.H ≤ base0) {pv : List Value} {Q : Exit → Act → World → Prop} {G : Gh}
    (hQ : ∀ G' a' w', Le G G' → Sim S G' (tr.foldl upd st0) pv a' w' → Q .normal a' w') : ∀ (fuel : Nat) (listed : Array Bool) (a : Act) (w : World) (G1 : Gh), listed.size = all.size → unl listed ≤ fuel → Closed tr listed → Le G G1 → Sim S G1 (stD tr st0 listed) pv a w →
      wpAny P .any all Q fuel listed a w := by
  have hlen : tr.length = all.size := by have := congrArg List.length htr; simpa using this
  have fin : ∀ (listed : Array Bool) (a : Act) (w : World) (G1 : Gh), listed.size = all.size → Le G G1 → Sim S G1 (stD tr st0 listed) pv a w → Region.ready .any all listed = [] → Q .normal a w := by
    intro listed a w G1 hsz hle hs hr
    have hall := all_listed hg htr hsz hr
    refine hQ G1 a w hle ?_
    have : tr.filter (inL listed) = tr := List.filter_eq_self.2 fun t ht => by
      obtain ⟨j, hj, e⟩ := List.getElem_of_mem ht
      have hjs : tr[j]? = some t := by rw [List.getElem?_eq_getElem hj, e]
      unfold inL
      rw [(hg j t hjs).i]
      exact hall j (by omega)
    unfold stD at hs
    rw [this] at hs
    exact hs
  intro fuel
  induction fuel with
  | zero =>
    intro listed a w G1 hsz hu hc hle hs
    have hr : Region.ready .any all listed = [] := by
      cases hx : Region.ready .any all listed with
      | nil => rfl
      | cons i r =>
        exfalso
        have hi : i ∈ Region.ready .any all listed := by rw [hx]; simp
        obtain ⟨h1, o, h2, _⟩ := mem_ready.1 hi
        have hlt : i < listed.size := by rw [hsz]; exact (Array.getElem?_eq_some_iff.1 h2).1
        have := unl_set hlt h1
        omega
    exact ⟨hr, fin listed a w G1 hsz hle hs hr⟩
  | succ fuel ih =>
    intro listed a w G1 hsz hu hc hle hs
    refine ⟨fun hr => fin listed a w G1 hsz hle hs hr, fun k hk => ?_⟩
    obtain ⟨h1, o, h2, h3⟩ := mem_ready.1 hk
    have hlt : k < listed.size := by rw [hsz]; exact (Array.getElem?_eq_some_iff.1 h2).1
    obtain ⟨_, hun⟩ := getD_false hlt h1
    have hkt : k < tr.length := by omega
    have ht : tr[k]? = some tr[k] := List.getElem?_eq_getElem hkt
    generalize htk : tr[k] = t at ht
    have hG := hg k t ht
    have ho : o = t.o := by
      have := congrArg (·[k]?) htr
      simp [ht] at this
      rw [h2] at this
      simpa using this.symm
    subst ho
    have hanc := anc_in hg hc ht fun e he hb => h3 e (by simpa using he) hb
    have hcl : Closed tr (listed.setIfInBounds k true) := by
      intro j s hj hd x hx
      by_cases hjk : j = k
      · subst hjk
        rw [ht] at hj
        simp at hj; subst hj
        exact getD_set_true (hanc x hx)
      · rw [getD_set_ne false (Ne.symm hjk)] at hd
        exact getD_set_true (hc j s hj hd x hx)
    have hu' : unl (listed.setIfInBounds k true) ≤ fuel := by have := unl_set hlt h1; omega
    have hset := stD_set hg hc ht hun hlt
    have hgd : GuardV all.toList t.o (stD tr st0 listed).F t.ex := by
      have hgd0 := hG.gd
      unfold GuardV at hgd0 ⊢
      cases hgu : t.o.guard with
      | none => rw [hgu] at hgd0; exact hgd0
      | some jw =>
        obtain ⟨j, want⟩ := jw
        rw [hgu] at hgd0
        obtain ⟨d, hd, hgd0⟩ := hgd0
        refine ⟨d, hd, ?_⟩
        rw [look_slot hg hc ht hun hanc (hG.lkG j want d hgu hd)]
        exact hgd0
    have hw := hgd.wanted hs.fr
    rw [Array.toArray_toList] at hw
    unfold wpOp
    simp only [h2, hw]
    cases hex : t.ex with
    | true =>
      rw [if_pos rfl]
      refine .inl ?_
      obtain ⟨own, hh⟩ := hs.hp
      obtain ⟨hrd, hrun⟩ := hG.run hex
      have hslot : ∀ x ∈ tmpsOf t.o.op.operands.toList, fget ((tr.take k).foldl upd st0).F x = fget (stD tr st0 listed).F x := fun x hx => (look_slot hg hc ht hun hanc (hG.lkT hex x hx)).symm
      have hobj : ∀ i ∈ tids (opv ((tr.take k).foldl upd st0).F) (hget ((tr.take k).foldl upd st0).H) t.o.op, hget ((tr.take k).foldl upd st0).H i = hget (stD tr st0 listed).H i := fun i hi => (look_obj hg hc ht hun hanc (by rw [hrd]; exact hi)).symm
      have hrun' := hrun
      rw [hrd, step_congr hslot hobj] at hrun'
      refine op_next ok hF hs.kp hh (LookOk.rst _ _) (fun n n1 n2 => free_own hg hc hbase hun n1 (by omega)) (fun x => hs.fr.eval x) hrun' _ _ ?_
      intro u w' G' own' hle' hv hk' hh'
      exact ih _ _ _ G' (by simpa using hsz) hu' hcl (hle.trans hle') ((hs.put hle' hv hk' hh').eqv hset)
    | false =>
      rw [if_neg (by simp)]
      obtain ⟨own, hh⟩ := hs.hp
      obtain ⟨hv, hus⟩ := hG.skip hex
      have hp := hs.put (u := undef) (d := t.o.dst) (Le.refl G1) (show VV S G1 (.c .undef) undef from ⟨rfl, trivial⟩) hs.kp hh
      have e1 : (⟨putDst (stD tr st0 listed).F t.o.dst (.c .undef), (stD tr st0 listed).H, (stD tr st0 listed).pins⟩ : St) = upd (stD tr st0 listed) t := by
        unfold upd; rw [hv, hus]; rfl
      rw [e1] at hp
      exact ih _ _ _ G1 (by simpa using hsz) hu' hcl hle (hp.eqv hset)

theorem region_any (ok : EnvOk P E) (hF : S.FrOk) (hm : P.follows .mixedOrders = true) {id : Nat} {K : St → Option R} {r : R} {Q : Exit → Act → World → Prop} {pv : List Value} {st : St} {G : Gh} {a : Act} {w : World}
    (hs : Sim S G st pv a w) (h : adraw E all.toList (llen st.H) all.toList 0 [] st K = some r) (hQ : ∀ st' G' a' w', Le G G' → Sim S G' st' pv a' w' → K st' = some r → Q .normal a' w') : (Code.region id all true).wp P Q a w := by
  obtain ⟨tr, h1, h2, h3⟩ := adraw_trace (st0 := st) all.toList [] (fun j s hj => by simp at hj) h
  simp only [List.nil_append] at h2 h3
  refine wp_region_any hm ?_
  refine any_walk ok hF (fun k t ht => h3 k t (Nat.zero_le _) ht) h1 (Nat.le_refl _) (G := G) (fun G' a' w' hle hs' => hQ _ G' a' w' hle hs' h2) all.size _ a _ G (by simp) ?_ ?_ (Le.refl G) ?_
  · unfold unl
    refine Nat.le_trans (List.length_filter_le _ _) ?_
    simp
  · intro k t ht hd
    exfalso
    rw [Array.getD_eq_getD_getElem?] at hd
    by_cases hlt : k < all.size
    · simp [hlt] at hd
    · rw [Array.getElem?_eq_none (by simp; omega)] at hd
      simp at hd
  · have e0 : stD tr st (Array.replicate all.size false) = st := by
      unfold stD
      have : tr.filter (inL (Array.replicate all.size false)) = [] := by
        rw [List.filter_eq_nil_iff]
        intro t _
        unfold inL
        rw [Array.getD_eq_getD_getElem?]
        by_cases hlt : t.i < all.size
        · simp [hlt]
        · rw [Array.getElem?_eq_none (by simp; omega)]; simp
      rw [this]; rfl
    rw [e0]
    obtain ⟨own, hh⟩ := hs.hp
    exact ⟨hs.fr, hs.df, hs.pins, hs.kp.drew, own, hh.keep (fun _ _ => rfl) (Nat.le_refl _)⟩
end
end Go.Proofs.Ytgnnljpdcafdkaa.Ev

/- What is kept at the head of a loop: names are given anew. -/
namespace Go.Proofs.Ytgnnljpdcafdkaa.Ev
open Go

theorem subL_iff (l s : List Nat) : subL l s = true ↔ ∀ x ∈ l, x ∈ s := by
  induction l with
  | nil => simp [subL]
  | cons x r ih =>
    simp only [subL]
    split
    · rename_i h; rw [nmem_iff] at h; simp [h, ih]
    · rename_i h; rw [nmem_iff] at h; simp [h]
theorem mem_addIds (x : Nat) : ∀ (l seen : List Nat), x ∈ addIds seen l ↔ x ∈ seen ∨ x ∈ l
  | [], seen => by simp [addIds]
  | n :: r, seen => by
    unfold addIds
    split
    · rename_i h
      rw [nmem_iff] at h
      rw [mem_addIds x r seen]
      simp only [List.mem_cons]
      constructor
      · rintro (h1 | h1)
        · exact .inl h1
        · exact .inr (.inr h1)
      · rintro (h1 | rfl | h1)
        · exact .inl h1
        · exact .inl h
        · exact .inr h1
    · rw [mem_addIds x r, app_eq]
      simp [or_assoc]
theorem nodup_addIds : ∀ (l seen : List Nat), seen.Nodup → (addIds seen l).Nodup
  | [], seen, h => h
  | n :: r, seen, h => by
    unfold addIds
    split
    · exact nodup_addIds r seen h
    · rename_i hm
      rw [nmem_iff] at hm
      refine nodup_addIds r _ ?_
      rw [app_eq]
      exact List.nodup_append.2 ⟨h, by simp, fun a ha b hb e => by simp at hb; subst hb; subst e; exact hm ha⟩
theorem mem_reach {look : Nat → Obj} {x : Nat} : ∀ (n : Nat) {seen : List Nat}, x ∈ seen → x ∈ reach look n seen
  | 0, _, h => h
  | n + 1, seen, h => mem_reach n ((mem_addIds x _ _).2 (.inl h))
theorem nodup_reach {look : Nat → Obj} : ∀ (n : Nat) {seen : List Nat}, seen.Nodup → (reach look n seen).Nodup
  | 0, _, h => h
  | n + 1, seen, h => nodup_reach n (nodup_addIds _ _ h)
theorem posOf_get : ∀ {ord : List Nat} {id : Nat}, id ∈ ord → ord[posOf ord id]? = some id
  | [], _, h => by simp at h
  | m :: r, id, h => by
    unfold posOf
    split
    · rename_i e; simp [e]
    · rename_i e
      rcases List.mem_cons.1 h with rfl | h
      · exact absurd rfl e
      · simpa using posOf_get h
theorem posOf_nth : ∀ {ord : List Nat} {n id : Nat}, ord.Nodup → ord[n]? = some id → posOf ord id = n
  | [], _, _, _, h => by simp at h
  | m :: r, 0, id, _, h => by simp at h; subst h; simp [posOf]
  | m :: r, n + 1, id, hn, h => by
    have hn' := List.nodup_cons.1 hn
    have h' : r[n]? = some id := by simpa using h
    have hne : m ≠ id := fun e => hn'.1 (e ▸ List.mem_of_getElem? h')
    simp [posOf, hne, posOf_nth hn'.2 h']

theorem mem_usesC (id : Nat) (c : Cv) : ∀ (l : List Cv), c ∈ usesC id l ↔ c ∈ l ∧ id ∈ c.refs
  | [] => by simp [usesC]
  | d :: r => by
    unfold usesC
    split
    · rename_i h
      rw [nmem_iff] at h
      simp only [List.mem_cons, mem_usesC id c r]
      constructor
      · rintro (rfl | h1)
        · exact ⟨.inl rfl, h⟩
        · exact ⟨.inr h1.1, h1.2⟩
      · rintro ⟨rfl | h1, h2⟩
        · exact .inl rfl
        · exact .inr ⟨h1, h2⟩
    · rename_i h
      rw [nmem_iff] at h
      simp only [List.mem_cons, mem_usesC id c r]
      constructor
      · rintro h1; exact ⟨.inr h1.1, h1.2⟩
      · rintro ⟨rfl | h1, h2⟩
        · exact absurd h2 h
        · exact ⟨h1, h2⟩

def cellsVs : List (Bool × List Cv) → List Cv
  | [] => []
  | (_, cs) :: r => cs ++ cellsVs r
def LV.cells : LV → List Cv
  | .v _ cs => cs
  | .tup vs => cellsVs vs
def cellsF : List LV → List Cv
  | [] => []
  | v :: r => v.cells ++ cellsF r
def cellsB (look : Nat → Obj) : List Nat → List Cv
  | [] => []
  | i :: r => match look i with
    | .box _ cs => cleanCs look cs ++ cellsB look r
    | _ => cellsB look r

theorem mem_usesVs (id : Nat) (c : Cv) : ∀ (l : List (Bool × List Cv)), c ∈ usesVs id l ↔ c ∈ cellsVs l ∧ id ∈ c.refs
  | [] => by simp [usesVs, cellsVs]
  | (a, cs) :: r => by simp only [usesVs, cellsVs, app_eq, List.mem_append, mem_usesC, mem_usesVs id c r, or_and_right]
theorem mem_usesF (id : Nat) (c : Cv) : ∀ (l : List LV), c ∈ usesF id l ↔ c ∈ cellsF l ∧ id ∈ c.refs
  | [] => by simp [usesF, cellsF]
  | .v _ cs :: r => by simp only [usesF, cellsF, LV.cells, app_eq, List.mem_append, mem_usesC, mem_usesF id c r, or_and_right]
  | .tup vs :: r => by simp only [usesF, cellsF, LV.cells, app_eq, List.mem_append, mem_usesVs, mem_usesF id c r, or_and_right]
theorem mem_usesB (look : Nat → Obj) (id : Nat) (c : Cv) : ∀ (l : List Nat), c ∈ usesB look id l ↔ c ∈ cellsB look l ∧ id ∈ c.refs
  | [] => by simp [usesB, cellsB]
  | i :: r => by
    unfold usesB cellsB
    cases look i <;> simp only [app_eq, List.mem_append, mem_usesC, mem_usesB look id c r, or_and_right]
def gcCells (P1 : List Cv) (F1 : List LV) (look : Nat → Obj) (ord : List Nat) : List Cv := P1 ++ (cellsF F1 ++ cellsB look ord)
theorem mem_gcU (P1 : List Cv) (F1 : List LV) (look : Nat → Obj) (ord : List Nat) (id : Nat) (c : Cv) : c ∈ gcU P1 F1 look ord id ↔ c ∈ gcCells P1 F1 look ord ∧ id ∈ c.refs := by
  simp only [gcU, gcCells, app_eq, List.mem_append, mem_usesC, mem_usesF, mem_usesB, or_and_right]

theorem mem_crefs {x : Nat} : ∀ {cs : List Cv}, x ∈ crefs cs ↔ ∃ c ∈ cs, x ∈ c.refs
  | [] => by simp [crefs]
  | c :: r => by simp [crefs, mem_crefs (cs := r)]
theorem mem_vrefs {x : Nat} : ∀ {vs : List (Bool × List Cv)}, x ∈ vrefs vs ↔ ∃ c ∈ cellsVs vs, x ∈ c.refs
  | [] => by simp [vrefs, cellsVs]
  | (a, cs) :: r => by
    simp only [vrefs, cellsVs, List.mem_append, mem_crefs, mem_vrefs (vs := r)]
    constructor
    · rintro (⟨c, h1, h2⟩ | ⟨c, h1, h2⟩)
      · exact ⟨c, .inl h1, h2⟩
      · exact ⟨c, .inr h1, h2⟩
    · rintro ⟨c, h1 | h1, h2⟩
      · exact .inl ⟨c, h1, h2⟩
      · exact .inr ⟨c, h1, h2⟩
theorem mem_frefs {x : Nat} : ∀ {F : List LV}, x ∈ frefs F ↔ ∃ c ∈ cellsF F, x ∈ c.refs
  | [] => by simp [frefs, cellsF]
  | v :: r => by
    simp only [frefs, cellsF, app_eq, List.mem_append, mem_frefs (F := r)]
    have hv : x ∈ v.refs ↔ ∃ c ∈ v.cells, x ∈ c.refs := by
      cases v with
      | v ag cs => exact mem_crefs
      | tup vs => exact mem_vrefs
    rw [hv]
    constructor
    · rintro (⟨c, h1, h2⟩ | ⟨c, h1, h2⟩)
      · exact ⟨c, .inl h1, h2⟩
      · exact ⟨c, .inr h1, h2⟩
    · rintro ⟨c, h1 | h1, h2⟩
      · exact .inl ⟨c, h1, h2⟩
      · exact .inr ⟨c, h1, h2⟩
theorem mem_boxRefs {look : Nat → Obj} {x : Nat} : ∀ {ids : List Nat}, x ∈ boxRefs look ids ↔ ∃ c ∈ cellsB look ids, x ∈ c.refs
  | [] => by simp [boxRefs, cellsB]
  | i :: r => by
    unfold boxRefs cellsB
    cases look i with
    | box T cs =>
      simp only [app_eq, List.mem_append, mem_crefs, mem_boxRefs (ids := r)]
      constructor
      · rintro (⟨c, h1, h2⟩ | ⟨c, h1, h2⟩)
        · exact ⟨c, .inl h1, h2⟩
        · exact ⟨c, .inr h1, h2⟩
      · rintro ⟨c, h1 | h1, h2⟩
        · exact .inl ⟨c, h1, h2⟩
        · exact .inr ⟨c, h1, h2⟩
    | _ => exact mem_boxRefs

/-! ### Cells made clean -/
section
variable {S : Sta} {G : Gh} {look : Nat → Obj}

theorem clean_or (c : Cv) : cleanC look c = c ∨ cleanC look c = .junk := by
  unfold cleanC
  repeat' split
  all_goals first | exact .inl rfl | exact .inr rfl
theorem clean_idem (c : Cv) : cleanC look (cleanC look c) = cleanC look c := by
  rcases clean_or (look := look) c with h | h
  · rw [h, h]
  · rw [h]; rfl
theorem clean_vc {c : Cv} {u : Value} (h : VC S G c u) : VC S G (cleanC look c) u := by
  rcases clean_or (look := look) c with e | e
  · rw [e]; exact h
  · rw [e]; trivial
theorem cleans_vl : ∀ {cs : List Cv} {us : List Value}, VL S G cs us → VL S G (cleanCs look cs) us
  | [], [], _ => trivial
  | _ :: _, _ :: _, ⟨h1, h2⟩ => ⟨clean_vc h1, cleans_vl h2⟩
  | [], _ :: _, h => h.elim
  | _ :: _, [], h => h.elim
theorem cleans_va {ag : Bool} {cs : List Cv} {u : Value} (h : VA S G ag cs u) : VA S G ag (cleanCs look cs) u := by
  cases ag with
  | true => obtain ⟨us, e, k⟩ := h; exact ⟨us, e, cleans_vl k⟩
  | false => exact cleans_vl h
theorem cleans_vt : ∀ {vs : List (Bool × List Cv)} {us : List Value}, VT S G vs us → VT S G (cleanVs look vs) us
  | [], [], _ => trivial
  | _ :: _, _ :: _, ⟨h1, h2⟩ => ⟨cleans_va h1, cleans_vt h2⟩
  | [], _ :: _, h => h.elim
  | _ :: _, [], h => h.elim
theorem clean_vv {v : LV} {u : Value} (h : VV S G v u) : VV S G (cleanV look v) u := by
  cases v with
  | v ag cs => exact cleans_va h
  | tup vs => obtain ⟨us, e, k⟩ := h; exact ⟨us, e, cleans_vt k⟩
theorem keepF_vf {ks : List Nat} : ∀ (i : Nat) {F : List LV} {us : List Value}, VF S G F us → VF S G (keepF look ks i F) us
  | _, [], [], _ => trivial
  | i, v :: r, u :: us, ⟨h1, h2⟩ => ⟨by
      show VV S G (if nmem i ks = true then cleanV look v else .c .junk) u
      split
      · exact clean_vv h1
      · exact VV_junk S G u, keepF_vf (i + 1) h2⟩
  | _, [], _ :: _, h => h.elim
  | _, _ :: _, [], h => h.elim
theorem clean_mem : ∀ {cs : List Cv} {c : Cv}, c ∈ cleanCs look cs → cleanC look c = c
  | [], _, h => by simp [cleanCs] at h
  | d :: r, c, h => by
    simp only [cleanCs, List.mem_cons] at h
    rcases h with rfl | h
    · exact clean_idem d
    · exact clean_mem h
theorem cleanVs_mem : ∀ {vs : List (Bool × List Cv)} {c : Cv}, c ∈ cellsVs (cleanVs look vs) → cleanC look c = c
  | [], _, h => by simp [cleanVs, cellsVs] at h
  | (a, cs) :: r, c, h => by
    simp only [cleanVs, cellsVs, List.mem_append] at h
    rcases h with h | h
    · exact clean_mem h
    · exact cleanVs_mem h
theorem keepF_mem {ks : List Nat} : ∀ (i : Nat) {F : List LV} {c : Cv}, c ∈ cellsF (keepF look ks i F) → cleanC look c = c
  | _, [], _, h => by simp [keepF, cellsF] at h
  | i, v :: r, c, h => by
    simp only [keepF, cellsF, List.mem_append] at h
    rcases h with h | h
    · split at h
      · cases v with
        | v ag cs => exact clean_mem h
        | tup vs => exact cleanVs_mem h
      · simp [LV.cells] at h; subst h; rfl
    · exact keepF_mem (i + 1) h
theorem cellsB_mem : ∀ {ids : List Nat} {c : Cv}, c ∈ cellsB look ids → cleanC look c = c ∧ ∃ i T cs, i ∈ ids ∧ look i = .box T cs ∧ c ∈ cleanCs look cs
  | [], _, h => by simp [cellsB] at h
  | i :: r, c, h => by
    unfold cellsB at h
    split at h
    · rename_i T cs hb
      rcases List.mem_append.1 h with h | h
      · exact ⟨clean_mem h, i, T, cs, by simp, hb, h⟩
      · obtain ⟨h1, j, T', cs', h2, h3⟩ := cellsB_mem h
        exact ⟨h1, j, T', cs', by simp [h2], h3⟩
    · obtain ⟨h1, j, T', cs', h2, h3⟩ := cellsB_mem h
      exact ⟨h1, j, T', cs', by simp [h2], h3⟩
theorem mem_cellsB {i : Nat} {T : TypeId} {cs : List Cv} (hb : look i = .box T cs) {c : Cv} (hc : c ∈ cleanCs look cs) : ∀ {ids : List Nat}, i ∈ ids → c ∈ cellsB look ids
  | [], h => by simp at h
  | j :: r, h => by
    unfold cellsB
    rcases List.mem_cons.1 h with e | h
    · subst e; rw [hb]; simp [hc]
    · have := mem_cellsB hb hc h
      split
      · simp [this]
      · exact this

theorem vl_mem : ∀ {cs : List Cv} {us : List Value}, VL S G cs us → ∀ c ∈ cs, ∃ u, VC S G c u
  | [], _, _, c, h => by simp at h
  | d :: r, u :: us, ⟨h1, h2⟩, c, h => by
    rcases List.mem_cons.1 h with rfl | h
    · exact ⟨u, h1⟩
    · exact vl_mem h2 c h
  | _ :: _, [], h, _, _ => h.elim
theorem va_mem {ag : Bool} {cs : List Cv} {u : Value} (h : VA S G ag cs u) : ∀ c ∈ cs, ∃ u, VC S G c u := by
  cases ag with
  | true => obtain ⟨us, _, k⟩ := h; exact vl_mem k
  | false => exact vl_mem h
theorem vt_mem : ∀ {vs : List (Bool × List Cv)} {us : List Value}, VT S G vs us → ∀ c ∈ cellsVs vs, ∃ u, VC S G c u
  | [], _, _, c, h => by simp [cellsVs] at h
  | (a, cs) :: r, u :: us, ⟨h1, h2⟩, c, h => by
    simp only [cellsVs, List.mem_append] at h
    rcases h with h | h
    · exact va_mem h1 c h
    · exact vt_mem h2 c h
  | _ :: _, [], h, _, _ => h.elim
theorem vf_mem : ∀ {F : List LV} {us : List Value}, VF S G F us → ∀ c ∈ cellsF F, ∃ u, VC S G c u
  | [], _, _, c, h => by simp [cellsF] at h
  | v :: r, u :: us, ⟨h1, h2⟩, c, h => by
    simp only [cellsF, List.mem_append] at h
    rcases h with h | h
    · cases v with
      | v ag cs => exact va_mem h1 c h
      | tup vs => obtain ⟨us', _, k⟩ := h1; exact vt_mem k c h
    · exact vf_mem h2 c h
  | _ :: _, [], h, _, _ => h.elim
end
end Go.Proofs.Ytgnnljpdcafdkaa.Ev

/- Names given anew: every cell and every object stands as before. -/
namespace Go.Proofs.Ytgnnljpdcafdkaa.Ev
open Go

def plOf (G : Gh) (look : Nat → Obj) (us : Nat → List Cv) (id : Nat) : Option Place :=
  match look id with
  | .box _ _ => G.φ id 0
  | .row _ _ gen _ _ _ _ => match trimOf (us id) with
    | some (off, len) => (G.φ id gen).map fun p => ⟨p.blk, p.base + off * p.sz, p.sz, len, p.lim, p.room - off⟩
    | none => G.φ id gen
  | _ => none
def nuN (G : Gh) (look : Nat → Obj) (us : Nat → List Cv) (id i o : Nat) : Option (Value × Nat) :=
  match look id with
  | .row _ _ gen md _ _ _ => match trimOf (us id) with
    | some (off, _) => G.ν id gen md (i + off) o
    | none => G.ν id gen md i o
  | _ => none
def gcG (G : Gh) (look : Nat → Obj) (us : Nat → List Cv) (ord : List Nat) : Gh :=
  ⟨fun n g => if g = 0 then (match ord[n]? with
    | some id => plOf G look us id
    | none => none) else none,
   fun n g m i o => if g = 0 ∧ m = 0 then (match ord[n]? with
    | some id => nuN G look us id i o
    | none => none) else none⟩

theorem mem_trimIds {look : Nat → Obj} {us : Nat → List Cv} {id : Nat} : ∀ {ids : List Nat}, id ∈ trimIds look us ids ↔ id ∈ ids ∧ (∃ e t g m ex xs, look id = .row e t g m ex none xs) ∧ ∃ q, trimOf (us id) = some q
  | [] => by simp [trimIds]
  | i :: r => by
    unfold trimIds
    split
    · rename_i e t g m ex xs hl
      split
      · rename_i q hq
        simp only [List.mem_cons, mem_trimIds (ids := r)]
        constructor
        · rintro (rfl | ⟨h1, h2⟩)
          · exact ⟨.inl rfl, ⟨_, _, _, _, _, _, hl⟩, q, hq⟩
          · exact ⟨.inr h1, h2⟩
        · rintro ⟨rfl | h1, h2⟩
          · exact .inl rfl
          · exact .inr ⟨h1, h2⟩
      · rename_i hq
        simp only [List.mem_cons, mem_trimIds (ids := r)]
        constructor
        · rintro ⟨h1, h2⟩; exact ⟨.inr h1, h2⟩
        · rintro ⟨rfl | h1, h2, q, h3⟩
          · rw [hq] at h3; cases h3
          · exact ⟨h1, h2, q, h3⟩
    · rename_i hl
      simp only [List.mem_cons, mem_trimIds (ids := r)]
      constructor
      · rintro ⟨h1, h2⟩; exact ⟨.inr h1, h2⟩
      · rintro ⟨rfl | h1, ⟨e, t, g, m, ex, xs, h2⟩, h3⟩
        · exact absurd h2 (hl _ _ _ _ _ _)
        · exact ⟨h1, ⟨e, t, g, m, ex, xs, h2⟩, h3⟩

theorem trimOf_some {l : List Cv} {off len : Nat} (h : trimOf l = some (off, len)) : ∃ i g, l = [.part i g off len] := by
  unfold trimOf at h
  split at h
  · simp at h; obtain ⟨rfl, rfl⟩ := h; exact ⟨_, _, rfl⟩
  · cases h

theorem hget_renH {look : Nat → Obj} {ord trims : List Nat} {us : Nat → List Cv} : ∀ (l : List Nat) (n : Nat), hget (renH look ord trims us l) n = (match l[n]? with
    | some id => renO look ord trims us id
    | none => .free)
  | [], _ => by simp [renH, hget]
  | i :: r, 0 => by simp [renH, hget]
  | i :: r, n + 1 => by simp [renH, hget, hget_renH r n]
theorem renCs_len {ord trims : List Nat} : ∀ (cs : List Cv), (renCs ord trims cs).length = cs.length
  | [] => rfl
  | _ :: r => by simp [renCs, renCs_len r]
theorem cleanCs_len {look : Nat → Obj} : ∀ (cs : List Cv), (cleanCs look cs).length = cs.length
  | [] => rfl
  | _ :: r => by simp [cleanCs, cleanCs_len r]

/-- what the names given anew rest on -/
structure GcOk (S : Sta) (G : Gh) (own : Nat → Option Nat) (H : List Obj) (w : World) (P1 : List Cv) (F1 : List LV) (ord : List Nat) : Prop where
  hh : Hs S G own H w
  nd : ord.Nodup
  cl : ∀ c ∈ gcCells P1 F1 (hget H) ord, cleanC (hget H) c = c
  vc : ∀ c ∈ gcCells P1 F1 (hget H) ord, ∃ u, VC S G c u
  rf : ∀ c ∈ gcCells P1 F1 (hget H) ord, ∀ id ∈ c.refs, id ∈ ord

section
variable {S : Sta} {G : Gh} {own : Nat → Option Nat} {H : List Obj} {w : World} {P1 : List Cv} {F1 : List LV} {ord : List Nat} (ok : GcOk S G own H w P1 F1 ord)
include ok

theorem GcOk.φ {id : Nat} (hid : id ∈ ord) : (gcG G (hget H) (gcU P1 F1 (hget H) ord) ord).φ (posOf ord id) 0 = plOf G (hget H) (gcU P1 F1 (hget H) ord) id := by
  simp [gcG, posOf_get hid]
theorem GcOk.ν {id i o : Nat} (hid : id ∈ ord) : (gcG G (hget H) (gcU P1 F1 (hget H) ord) ord).ν (posOf ord id) 0 0 i o = nuN G (hget H) (gcU P1 F1 (hget H) ord) id i o := by
  simp [gcG, posOf_get hid]

/-- a name that another cell than a part bears is not cut -/
theorem GcOk.notrim {c : Cv} (hc : c ∈ gcCells P1 F1 (hget H) ord) {id : Nat} (hid : id ∈ c.refs) (hp : ∀ a b off len, c ≠ .part a b off len) : trimOf (gcU P1 F1 (hget H) ord id) = none := by
  cases h : trimOf (gcU P1 F1 (hget H) ord id) with
  | none => rfl
  | some q =>
    obtain ⟨off, len⟩ := q
    obtain ⟨a, b, e⟩ := trimOf_some h
    have hm := (mem_gcU P1 F1 (hget H) ord id c).2 ⟨hc, hid⟩
    rw [e] at hm
    exact absurd (by simpa using hm) (hp a b off len)

theorem clean_own {id gen : Nat} (h : cleanC (hget H) (.own id gen) = .own id gen) : ∃ e t m ex le xs, hget H id = .row e t gen m ex le xs := by
  simp only [cleanC] at h
  split at h
  · rename_i hl
    split at h
    · rename_i hg; subst hg; exact ⟨_, _, _, _, _, _, hl⟩
    · cases h
  · cases h
theorem clean_part {id gen off len : Nat} (h : cleanC (hget H) (.part id gen off len) = .part id gen off len) : ∃ e t m ex le xs, hget H id = .row e t gen m ex le xs := by
  simp only [cleanC] at h
  split at h
  · rename_i hl
    split at h
    · rename_i hg; subst hg; exact ⟨_, _, _, _, _, _, hl⟩
    · cases h
  · cases h
theorem clean_ptr {id gen idx off : Nat} (h : cleanC (hget H) (.ptr id gen idx off) = .ptr id gen idx off) : (∃ e t m ex le xs, hget H id = .row e t gen m ex le xs) ∨ (gen = 0 ∧ ∃ T cs, hget H id = .box T cs) := by
  simp only [cleanC] at h
  split at h
  · rename_i hl
    split at h
    · rename_i hg; subst hg; exact .inl ⟨_, _, _, _, _, _, hl⟩
    · cases h
  · rename_i hl
    split at h
    · rename_i hg; exact .inr ⟨hg, _, _, hl⟩
    · cases h
  · cases h
theorem clean_nest {id gen md idx off : Nat} (h : cleanC (hget H) (.nest id gen md idx off) = .nest id gen md idx off) : ∃ e t ex le xs, hget H id = .row e t gen md ex le xs := by
  simp only [cleanC] at h
  split at h
  · rename_i hl
    split at h
    · rename_i hg
      split at h
      · rename_i hm; subst hg hm; exact ⟨_, _, _, _, _, hl⟩
      · cases h
    · cases h
  · cases h
theorem clean_nptr {id gen md idx off a fo : Nat} (h : cleanC (hget H) (.nptr id gen md idx off a fo) = .nptr id gen md idx off a fo) : ∃ e t ex le xs, hget H id = .row e t gen md ex le xs := by
  simp only [cleanC] at h
  split at h
  · rename_i hl
    split at h
    · rename_i hg
      split at h
      · rename_i hm; subst hg hm; exact ⟨_, _, _, _, _, hl⟩
      · cases h
    · cases h
  · cases h
theorem clean_fn {g : FuncId} {ids : List Nat} (h : cleanC (hget H) (.fn g ids) = .fn g ids) : ∀ i ∈ ids, ∃ T cs, hget H i = .box T cs := by
  simp only [cleanC] at h
  split at h
  · rename_i hb
    clear h
    induction ids with
    | nil => intro i hi; simp at hi
    | cons j r ih =>
      unfold allBox at hb
      split at hb
      · rename_i T cs hl
        intro i hi
        rcases List.mem_cons.1 hi with rfl | hi
        · exact ⟨T, cs, hl⟩
        · exact ih hb i hi
      · cases hb
  · cases h

theorem GcOk.cell {c : Cv} (hc : c ∈ gcCells P1 F1 (hget H) ord) {u : Value} (hv : VC S G c u) : VC S (gcG G (hget H) (gcU P1 F1 (hget H) ord) ord) (renC ord (trimIds (hget H) (gcU P1 F1 (hget H) ord) ord) c) u := by
  have hcl := ok.cl c hc
  have hrf := ok.rf c hc
  cases c with
  | own id gen =>
    obtain ⟨e, t, m, ex, le, xs, hl⟩ := clean_own ok hcl
    have hid := hrf id (by simp [Cv.refs])
    have hnt := ok.notrim hc (id := id) (by simp [Cv.refs]) (by simp)
    obtain ⟨p, p1, p2⟩ := hv
    refine ⟨p, ?_, p2⟩
    rw [ok.φ hid]
    simp [plOf, hl, hnt, p1]
  | part id gen off len =>
    obtain ⟨e, t, m, ex, le, xs, hl⟩ := clean_part ok hcl
    have hid := hrf id (by simp [Cv.refs])
    obtain ⟨p, p1, p2, p3, A, l, cc, p4, p5⟩ := hv
    have hob := ok.hh.obj id
    rw [hl] at hob
    have hle : le = none := hob.1
    subst hle
    simp only [renC]
    by_cases ht : id ∈ trimIds (hget H) (gcU P1 F1 (hget H) ord) ord
    · rw [if_pos ((nmem_iff _ _).2 ht)]
      obtain ⟨_, _, q, hq⟩ := mem_trimIds.1 ht
      obtain ⟨off', len'⟩ := q
      obtain ⟨a, b, eu⟩ := trimOf_some hq
      have hm := (mem_gcU P1 F1 (hget H) ord id (.part id gen off len)).2 ⟨hc, by simp [Cv.refs]⟩
      rw [eu] at hm
      simp at hm
      obtain ⟨_, _, rfl, rfl⟩ := hm
      refine ⟨_, by rw [ok.φ hid]; simp [plOf, hl, hq, p1]; rfl, ?_, A, l, cc, p4, by simp only; omega⟩
      unfold SlOf at p3 ⊢
      cases hb : p.blk with
      | none => rw [hb] at p3; exact p3
      | some b =>
        rw [hb] at p3
        obtain ⟨o, c0, k1, k2, k3, k4, k5⟩ := p3
        exact ⟨o, c0, k1, k2, k3, k4, fun h0 => by simp [k5 h0]⟩
    · rw [if_neg (fun h => ht ((nmem_iff _ _).1 h))]
      have hnt : trimOf (gcU P1 F1 (hget H) ord id) = none := by
        cases hq : trimOf (gcU P1 F1 (hget H) ord id) with
        | none => rfl
        | some q => exact absurd (mem_trimIds.2 ⟨hid, ⟨_, _, _, _, _, _, hl⟩, q, hq⟩) ht
      exact ⟨p, by rw [ok.φ hid]; simp [plOf, hl, hnt, p1], p2, p3, A, l, cc, p4, p5⟩
  | tail id gen off len => simp [cleanC] at hcl
  | ptr id gen idx off =>
    have hid := hrf id (by simp [Cv.refs])
    have hnt := ok.notrim hc (id := id) (by simp [Cv.refs]) (by simp)
    obtain ⟨q, b, q1, q2⟩ := hv
    refine ⟨q, b, ?_, q2⟩
    rw [ok.φ hid]
    rcases clean_ptr ok hcl with ⟨e, t, m, ex, le, xs, hl⟩ | ⟨rfl, T, cs, hl⟩
    · simp [plOf, hl, hnt, q1]
    · simp [plOf, hl, q1]
  | fn g ids =>
    obtain ⟨vs, e1, e2⟩ := hv
    refine ⟨vs, e1, ?_⟩
    have hbx := clean_fn ok hcl
    have key : ∀ (ids : List Nat) (vs : List Value), (∀ i ∈ ids, i ∈ ord) → (∀ i ∈ ids, ∃ T cs, hget H i = .box T cs) → CapsOk G ids vs → CapsOk (gcG G (hget H) (gcU P1 F1 (hget H) ord) ord) (renC.posL ord ids) vs := by
      intro ids
      induction ids with
      | nil =>
        intro vs _ _ h
        cases vs with
        | nil => trivial
        | cons _ _ => exact h.elim
      | cons i r ih =>
        intro vs h1 h2 h3
        cases vs with
        | nil => exact h3.elim
        | cons v vs =>
          refine ⟨?_, ih vs (fun j hj => h1 j (by simp [hj])) (fun j hj => h2 j (by simp [hj])) h3.2⟩
          obtain ⟨q, b, q1, q2⟩ := h3.1
          obtain ⟨T, cs, hl⟩ := h2 i (by simp)
          exact ⟨q, b, by rw [ok.φ (h1 i (by simp))]; simp [plOf, hl, q1], q2⟩
    exact key ids vs hrf hbx e2
  | nest id gen md idx off =>
    obtain ⟨e, t, ex, le, xs, hl⟩ := clean_nest ok hcl
    have hid := hrf id (by simp [Cv.refs])
    have hnt := ok.notrim hc (id := id) (by simp [Cv.refs]) (by simp)
    obtain ⟨n, p, k1, k2, k3, k4⟩ := hv
    exact ⟨n, p, by rw [ok.ν hid]; simp [nuN, hl, hnt, k1], k2, by rw [ok.φ hid]; simp [plOf, hl, hnt, k3], k4⟩
  | nptr id gen md idx off a fo =>
    obtain ⟨e, t, ex, le, xs, hl⟩ := clean_nptr ok hcl
    have hid := hrf id (by simp [Cv.refs])
    have hnt := ok.notrim hc (id := id) (by simp [Cv.refs]) (by simp)
    obtain ⟨ad, len, c0, n, p, k1, k2, k3, k4, k5⟩ := hv
    exact ⟨ad, len, c0, n, p, by rw [ok.ν hid]; simp [nuN, hl, hnt, k1], k2, by rw [ok.φ hid]; simp [plOf, hl, hnt, k3], k4, k5⟩
  | junk => exact hv
  | undef => exact hv
  | int k n => exact hv
  | bool b => exact hv
  | str s => exact hv
  | nil => exact hv
  | nilp => exact hv
  | ext e t xs => exact hv
  | rxt e t xs => exact hv
  | eptr t x off => exact hv
  | efn g t x => exact hv

theorem GcOk.vl : ∀ {cs : List Cv} {us : List Value}, (∀ c ∈ cs, c ∈ gcCells P1 F1 (hget H) ord) → VL S G cs us → VL S (gcG G (hget H) (gcU P1 F1 (hget H) ord) ord) (renCs ord (trimIds (hget H) (gcU P1 F1 (hget H) ord) ord) cs) us
  | [], [], _, _ => trivial
  | _ :: _, _ :: _, h, ⟨h1, h2⟩ => ⟨ok.cell (h _ (by simp)) h1, GcOk.vl (fun c hc => h c (by simp [hc])) h2⟩
  | [], _ :: _, _, h => h.elim
  | _ :: _, [], _, h => h.elim
theorem GcOk.va {ag : Bool} {cs : List Cv} {u : Value} (h : ∀ c ∈ cs, c ∈ gcCells P1 F1 (hget H) ord) (hv : VA S G ag cs u) : VA S (gcG G (hget H) (gcU P1 F1 (hget H) ord) ord) ag (renCs ord (trimIds (hget H) (gcU P1 F1 (hget H) ord) ord) cs) u := by
  cases ag with
  | true => obtain ⟨us, e, k⟩ := hv; exact ⟨us, e, ok.vl h k⟩
  | false => exact ok.vl h hv
theorem GcOk.vt : ∀ {vs : List (Bool × List Cv)} {us : List Value}, (∀ c ∈ cellsVs vs, c ∈ gcCells P1 F1 (hget H) ord) → VT S G vs us → VT S (gcG G (hget H) (gcU P1 F1 (hget H) ord) ord) (renVs ord (trimIds (hget H) (gcU P1 F1 (hget H) ord) ord) vs) us
  | [], [], _, _ => trivial
  | (a, cs) :: _, _ :: _, h, ⟨h1, h2⟩ => ⟨ok.va (fun c hc => h c (by simp [cellsVs, hc])) h1, GcOk.vt (fun c hc => h c (by simp [cellsVs, hc])) h2⟩
  | [], _ :: _, _, h => h.elim
  | _ :: _, [], _, h => h.elim
theorem GcOk.vf : ∀ {F : List LV} {us : List Value}, (∀ c ∈ cellsF F, c ∈ gcCells P1 F1 (hget H) ord) → VF S G F us → VF S (gcG G (hget H) (gcU P1 F1 (hget H) ord) ord) (renF ord (trimIds (hget H) (gcU P1 F1 (hget H) ord) ord) F) us
  | [], [], _, _ => trivial
  | .v a cs :: r, _ :: _, h, ⟨h1, h2⟩ => ⟨ok.va (fun c hc => h c (by simp [cellsF, LV.cells, hc])) h1, GcOk.vf (F := r) (fun c hc => h c (by simp [cellsF, hc])) h2⟩
  | .tup vs :: r, _ :: _, h, ⟨⟨us, e, k⟩, h2⟩ => ⟨⟨us, e, ok.vt (fun c hc => h c (by simp [cellsF, LV.cells, hc])) k⟩, GcOk.vf (F := r) (fun c hc => h c (by simp [cellsF, hc])) h2⟩
  | [], _ :: _, _, h => h.elim
  | _ :: _, [], _, h => h.elim

def gcOwn (own : Nat → Option Nat) (ord : List Nat) (b : Nat) : Option Nat :=
  match own b with
  | some id => if id ∈ ord then some (posOf ord id) else none
  | none => none
omit ok in
theorem gcOwn_some {b n : Nat} (h : gcOwn own ord b = some n) : ∃ id, own b = some id := by
  unfold gcOwn at h
  split at h
  · rename_i id hb; exact ⟨id, hb⟩
  · cases h
omit ok in
theorem gcOwn_of {b id : Nat} (h : own b = some id) (hid : id ∈ ord) : gcOwn own ord b = some (posOf ord id) := by
  unfold gcOwn; rw [h]; simp [hid]

theorem GcOk.objs : Hs S (gcG G (hget H) (gcU P1 F1 (hget H) ord) ord) (gcOwn own ord) (renH (hget H) ord (trimIds (hget H) (gcU P1 F1 (hget H) ord) ord) (gcU P1 F1 (hget H) ord) ord) w := by
  refine ⟨fun n => ?_, fun b n hb => by obtain ⟨id, h⟩ := gcOwn_some hb; exact ok.hh.own b id h⟩
  rw [hget_renH]
  cases hn : ord[n]? with
  | none =>
    refine ⟨fun g => ?_, fun g m i o => ?_⟩
    · simp [gcG, hn]
    · simp [gcG, hn]
  | some id =>
    have hid : id ∈ ord := List.mem_of_getElem? hn
    have hpos := posOf_nth ok.nd hn
    have hob := ok.hh.obj id
    simp only
    unfold renO
    cases hl : hget H id with
    | free => exact ⟨fun g => by simp [gcG, hn, plOf, hl], fun g m i o => by simp [gcG, hn, nuN, hl]⟩
    | dead => trivial
    | box T cs =>
      rw [hl] at hob
      obtain ⟨p, b, cur, h1, h2, h3, h4, h5, h6, h7, h8⟩ := hob
      refine ⟨p, b, cur, by simp [gcG, hn, plOf, hl, h1], h2, h3, h4, by rw [renCs_len, cleanCs_len]; exact h5, h6, ok.vl (fun c hc => ?_) (cleans_vl h7), by rw [← hpos]; exact gcOwn_of h8 hid⟩
      unfold gcCells
      exact List.mem_append_right _ (List.mem_append_right _ (mem_cellsB hl hc hid))
    | row e t gen md ex lent xs =>
      rw [hl] at hob
      obtain ⟨rfl, _, _, p, h4, h5, h6, hr, h7⟩ := hob
      have hbig : ∀ g, 0 < g → (gcG G (hget H) (gcU P1 F1 (hget H) ord) ord).φ n g = none := fun g hg => by
        have : g ≠ 0 := by omega
        simp [gcG, this]
      have hbig2 : ∀ g m, 0 < g ∨ (g = 0 ∧ 0 < m) → ∀ i o, (gcG G (hget H) (gcU P1 F1 (hget H) ord) ord).ν n g m i o = none := fun g m hg i o => by
        have : ¬ (g = 0 ∧ m = 0) := by omega
        simp [gcG, this]
      cases hq : trimOf (gcU P1 F1 (hget H) ord id) with
      | none =>
        simp only
        refine ⟨rfl, hbig, hbig2, p, by simp [gcG, hn, plOf, hl, hq, h4], h5, h6, by simp; omega, ?_⟩
        cases hb : p.blk with
        | none => rw [hb] at h7; exact ⟨h7.1, rfl⟩
        | some b =>
          rw [hb] at h7
          obtain ⟨cur, bs, l1, l2, l3, l4, l5, l6, l7⟩ := h7
          refine ⟨cur, bs, l1, l2, ?_, l4, l5, fun x hx => by rw [← hpos]; exact gcOwn_of (l6 x hx) hid, ?_⟩
          · have : (xs.length + (none : Option Nat).getD 0) * t.sz ≤ (xs.length + ex.getD 0) * t.sz := Nat.mul_le_mul_right _ (by simp)
            omega
          · intro j x o e' t' ys hj he
            obtain ⟨v, v1, v2⟩ := l7 j x o e' t' ys hj he
            exact ⟨v, v1, by simp [gcG, hn, nuN, hl, hq, v2]⟩
      | some q =>
        obtain ⟨off, len⟩ := q
        obtain ⟨a, b0, eu⟩ := trimOf_some hq
        have hm : Cv.part a b0 off len ∈ gcU P1 F1 (hget H) ord id := by rw [eu]; simp
        obtain ⟨hm1, hm2⟩ := (mem_gcU P1 F1 (hget H) ord id _).1 hm
        have hai : id = a := by simpa [Cv.refs] using hm2
        subst hai
        obtain ⟨e1, t1, m1, ex1, le1, xs1, hl1⟩ := clean_part ok (ok.cl _ hm1)
        rw [hl] at hl1
        simp at hl1
        obtain ⟨_, _, rfl, _⟩ := hl1
        obtain ⟨u, q0, q1, q2, _⟩ := ok.vc _ hm1
        rw [h4] at q1
        obtain rfl : p = q0 := by simpa using q1
        have hxl : ((xs.drop off).take len).length = len := by simp; omega
        simp only
        refine ⟨rfl, hbig, hbig2, ⟨p.blk, p.base + off * p.sz, p.sz, len, p.lim, p.room - off⟩, by simp [gcG, hn, plOf, hl, hq, h4], h5, hxl.symm, by rw [hxl]; simp; omega, ?_⟩
        cases hb : p.blk with
        | none =>
          rw [hb] at h7
          obtain ⟨rfl, _⟩ := h7
          exact ⟨by simp, rfl⟩
        | some b =>
          rw [hb] at h7
          obtain ⟨cur, bs, l1, l2, l3, l4, l5, l6, l7⟩ := h7
          obtain ⟨c1, s1, k1⟩ := l4.drop off
          obtain ⟨c2, s2, k2⟩ := k1.take len
          have hsub : c2.Sublist bs := s2.trans s1
          rw [List.drop_drop] at k2
          refine ⟨cur, c2, l1, l2, ?_, by rw [h5]; exact k2, List.Nodup.sublist (List.Sublist.cons_cons _ hsub) l5, fun x hx => ?_, ?_⟩
          · rw [hxl, h5]
            have : (off + len) * t.sz ≤ (xs.length + ex.getD 0) * t.sz := Nat.mul_le_mul_right _ (by omega)
            rw [Nat.add_mul] at this
            simp
            omega
          · rw [← hpos]
            refine gcOwn_of (l6 x ?_) hid
            rcases List.mem_cons.1 hx with rfl | hx
            · simp
            · simp [hsub.subset hx]
          · intro j x o e' t' ys hj he
            have hj2 : xs[off + j]? = some x := by
              rw [List.getElem?_take] at hj
              split at hj
              · rw [List.getElem?_drop] at hj; exact hj
              · cases hj
            obtain ⟨v, v1, v2⟩ := l7 (off + j) x o e' t' ys hj2 he
            refine ⟨v, ?_, by simp [gcG, hn, nuN, hl, hq]; rw [Nat.add_comm j off]; exact v2⟩
            rw [List.getElem?_drop] at v1 ⊢
            rw [← v1, h5]
            congr 1
            rw [Nat.add_mul]
            simp only
            omega
end

theorem gc_sim {S : Sta} {G : Gh} {st : St} {pv : List Value} {a : Act} {w : World} (hs : Sim S G st pv a w) (ks : List Nat) : ∃ G', Sim S G' (gc ks st) pv a w := by
  obtain ⟨own, hh⟩ := hs.hp
  show ∃ G', Sim S G' (gcW (hget st.H) (gcP st) (gcF ks st) (gcO ks st) (trimIds (hget st.H) (gcU (gcP st) (gcF ks st) (hget st.H) (gcO ks st)) (gcO ks st)) st) pv a w
  unfold gcW
  split
  · rename_i hsub
    rw [subL_iff] at hsub
    have hF1 : VF S G (gcF ks st) a.tmps.toList := keepF_vf 0 hs.fr
    have hP1 : VL S G (gcP st) pv := cleans_vl hs.pins
    have hseed : ∀ x, x ∈ crefs (gcP st) ∨ x ∈ frefs (gcF ks st) → x ∈ gcO ks st := fun x hx => by
      refine mem_reach _ ?_
      rw [mem_addIds, mem_addIds]
      rcases hx with h | h
      · exact .inl (.inr h)
      · exact .inr h
    have ok : GcOk S G own st.H w (gcP st) (gcF ks st) (gcO ks st) := by
      refine ⟨hh, nodup_reach _ (nodup_addIds _ _ (nodup_addIds _ _ List.nodup_nil)), fun c hc => ?_, fun c hc => ?_, fun c hc id hid => ?_⟩
      · unfold gcCells at hc
        rcases List.mem_append.1 hc with hc | hc
        · exact clean_mem hc
        · rcases List.mem_append.1 hc with hc | hc
          · exact keepF_mem 0 hc
          · exact (cellsB_mem hc).1
      · unfold gcCells at hc
        rcases List.mem_append.1 hc with hc | hc
        · exact vl_mem hP1 c hc
        · rcases List.mem_append.1 hc with hc | hc
          · exact vf_mem hF1 c hc
          · obtain ⟨_, i, T, cs, h1, h2, h3⟩ := cellsB_mem hc
            have hob := hh.obj i
            rw [h2] at hob
            obtain ⟨p, b, cur, _, _, _, _, _, _, h7, _⟩ := hob
            exact vl_mem (cleans_vl h7) c h3
      · unfold gcCells at hc
        rcases List.mem_append.1 hc with hc | hc
        · exact hseed id (.inl (mem_crefs.2 ⟨c, hc, hid⟩))
        · rcases List.mem_append.1 hc with hc | hc
          · exact hseed id (.inr (mem_frefs.2 ⟨c, hc, hid⟩))
          · exact hsub id (mem_boxRefs.2 ⟨c, hc, hid⟩)
    exact ⟨_, ok.vf (fun c hc => by unfold gcCells; simp [hc]) hF1, hs.df, ok.vl (fun c hc => by unfold gcCells; simp [hc]) hP1, hs.kp, _, ok.objs⟩
  · exact ⟨G, hs⟩
end Go.Proofs.Ytgnnljpdcafdkaa.Ev

/- Code, loops, results, functions in place. -/
namespace Go.Proofs.Ytgnnljpdcafdkaa.Ev
open Go

/-- a loop, at its head -/
def wpLoop (P : Program) (c : Code) (Q : Exit → Act → World → Prop) (a : Act) (w : World) : Prop :=
  ∀ (b : Frame) (k : List Item) (cs : List Frame), ∃ e a' w', Q e a' w' ∧ Arrives P (lone (b.at a (.code c :: .inLoop c :: k)) cs w) b k cs e a' w'

theorem wp_of_head {P : Program} {c : Code} {Q : Exit → Act → World → Prop} {a : Act} {w : World} (h : wpLoop P c Q a w) : (Code.loop c).wp P Q a w :=
  fun b k cs => let ⟨e, a', w', q, r⟩ := h b k cs; ⟨e, a', w', q, .of_steps (.one step_loop) r⟩
theorem head_round {P : Program} {c : Code} {Q : Exit → Act → World → Prop} {a : Act} {w : World} (h : c.wp P (Exit.then (wpLoop P c Q) Q) a w) : wpLoop P c Q a w := by
  intro b k cs
  obtain ⟨e, a₁, w₁, hq, harr⟩ := h b (.inLoop c :: k) cs
  cases e with
  | normal =>
    obtain ⟨e₂, a₂, w₂, hq₂, harr₂⟩ := hq b k cs
    exact ⟨e₂, a₂, w₂, hq₂, .of_steps (Steps.trans harr (.one step_inLoop)) harr₂⟩
  | exit id => exact ⟨_, a₁, w₁, hq, .pass (x := .inLoop c) rfl (fun _ _ => .inl (by simp)) harr⟩
  | goto l => exact ⟨_, a₁, w₁, hq, .pass (x := .inLoop c) rfl (fun _ _ => .inl (by simp)) harr⟩
  | ret => exact ⟨_, a₁, w₁, hq, .pass (x := .inLoop c) rfl (fun _ _ => .inl (by simp)) harr⟩
  | panic ch => exact ⟨_, a₁, w₁, hq, .pass (x := .inLoop c) rfl (fun _ _ => .inl (by simp)) harr⟩
  | outgrown => exact ⟨_, a₁, w₁, hq, .pass (x := .inLoop c) rfl (fun _ _ => .inl (by simp)) harr⟩

def exOf : Ex → Exit
  | .normal => .normal
  | .exit id => .exit id
  | .ret => .ret

section
variable {R : Type} {P : Program} {S : Sta} {E : Env}

theorem canon_sim {G : Gh} {st : St} {pv : List Value} {a : Act} {w : World} (hs : Sim S G st pv a w) (f : FuncId) (c : Code) : ∃ G', Sim S G' (canonOf E f c st) pv a w := by
  unfold canonOf
  split
  · split
    · exact gc_sim hs _
    · exact ⟨G, hs⟩
  · exact ⟨G, hs⟩

def WalkOk (P : Program) (S : Sta) (lp : Bool) (run : St → (Ex → St → Option R) → Option R) (c : Code) : Prop :=
  ∀ (K : Ex → St → Option R) (r : R) (Q : Exit → Act → World → Prop) (pv : List Value) (st : St) (G : Gh) (a : Act) (w : World), Sim S G st pv a w → run st K = some r →
    (∀ e st' G' a' w', (lp = false → Le G G') → Sim S G' st' pv a' w' → K e st' = some r → Q (exOf e) a' w') → c.wp P Q a w

theorem aloop_sound {run : St → (Ex → St → Option R) → Option R} {c : Code} (h : WalkOk P S true run c) {canon : St → St} (hcan : ∀ {G st pv a w}, Sim S G st pv a w → ∃ G', Sim S G' (canon st) pv a w) :
    ∀ (m : Nat) {K : Ex → St → Option R} {r : R} {Q : Exit → Act → World → Prop} {pv : List Value} {st : St} {G : Gh} {a : Act} {w : World}, Sim S G st pv a w → aloop run canon m st K = some r →
      (∀ e st' G' a' w', Sim S G' st' pv a' w' → K e st' = some r → Q (exOf e) a' w') → wpLoop P c Q a w
  | 0, _, _, _, _, _, _, _, _, _, hr, _ => by simp [aloop] at hr
  | m + 1, K, r, Q, pv, st, G, a, w, hs, hr, hQ => by
    refine head_round (h _ r _ pv st G a w hs hr ?_)
    intro e st' G' a' w' _ hs' hK
    cases e with
    | normal =>
      obtain ⟨G2, hs2⟩ := hcan hs'
      exact aloop_sound h hcan m hs2 hK hQ
    | exit id => exact hQ (.exit id) st' G' a' w' hs' hK
    | ret => exact hQ .ret st' G' a' w' hs' hK

theorem acode_sound (ok : EnvOk P E) (hF : S.FrOk) (hm : P.follows .mixedOrders = true) {f : FuncId} {ic : FuncId → List LV → List Obj → (LV → List Obj → Option R) → Option R} (hic : IcOk P S ic) (lp : Bool) (n : Nat) : ∀ (c : Code), WalkOk P S lp (acode E f ic lp n c) c
  | .skip => fun K r Q pv st G a w hs h hQ => wp_skip (hQ .normal st G a w (fun _ => Le.refl G) hs h)
  | .region id ops draw => fun K r Q pv st G a w hs h hQ => by
    simp only [acode] at h
    split at h
    · rename_i hd
      subst hd
      exact region_any ok hF hm hs h fun st' G' a' w' hle hs' hK => hQ .normal st' G' a' w' (fun _ => hle) hs' hK
    · rename_i hd
      have : draw = false := by simpa using hd
      subst this
      exact region_text ok hF hic hs h fun st' G' a' w' hle hs' hK => hQ .normal st' G' a' w' (fun _ => hle) hs' hK
  | .seq x y => fun K r Q pv st G a w hs h hQ => by
    simp only [acode] at h
    refine wp_seq (acode_sound ok hF hm hic lp n x _ r _ pv st G a w hs h ?_)
    intro e st' G' a' w' hle hs' hK
    cases e with
    | normal => exact acode_sound ok hF hm hic lp n y K r Q pv st' G' a' w' hs' hK fun e st'' G'' a'' w'' hle' hs'' hK' => hQ e st'' G'' a'' w'' (fun h => (hle h).trans (hle' h)) hs'' hK'
    | exit id => exact hQ (.exit id) st' G' a' w' hle hs' hK
    | ret => exact hQ .ret st' G' a' w' hle hs' hK
  | .cond c x y => fun K r Q pv st G a w hs h hQ => by
    simp only [acode] at h
    have hv := hs.fr.eval c
    split at h
    · rename_i t ht
      rw [ht] at hv
      have hc : a.eval c = .bool t := hv.1
      refine wp_cond hc ?_
      cases t with
      | true => exact acode_sound ok hF hm hic lp n x K r Q pv st G a w hs (by simpa using h) hQ
      | false => exact acode_sound ok hF hm hic lp n y K r Q pv st G a w hs (by simpa using h) hQ
    · cases h
  | .block id c => fun K r Q pv st G a w hs h hQ => by
    simp only [acode] at h
    refine wp_block (acode_sound ok hF hm hic lp n c _ r _ pv st G a w hs h ?_)
    intro e st' G' a' w' hle hs' hK
    cases e with
    | normal => exact hQ .normal st' G' a' w' hle hs' hK
    | exit i =>
      simp only [blockK] at hK
      show Exit.inBlock id Q (.exit i) a' w'
      simp only [Exit.inBlock]
      split at hK
      · rename_i hi; rw [if_pos hi]; exact hQ .normal st' G' a' w' hle hs' hK
      · rename_i hi; rw [if_neg hi]; exact hQ (.exit i) st' G' a' w' hle hs' hK
    | ret => exact hQ .ret st' G' a' w' hle hs' hK
  | .loop c => fun K r Q pv st G a w hs h hQ => by
    simp only [acode] at h
    split at h
    · rename_i hl
      subst hl
      obtain ⟨G1, hs1⟩ := canon_sim (E := E) hs f c
      exact wp_of_head (aloop_sound (acode_sound ok hF hm hic true n c) (fun hs => canon_sim hs f c) n hs1 h fun e st' G' a' w' hs' hK => hQ e st' G' a' w' (fun h => by cases h) hs' hK)
    · cases h
  | .exit id => fun K r Q pv st G a w hs h hQ => wp_exit (hQ (.exit id) st G a w (fun _ => Le.refl G) hs h)
  | .ret => fun K r Q pv st G a w hs h hQ => wp_ret (hQ .ret st G a w (fun _ => Le.refl G) hs h)
  | .rangeFunc _ _ _ _ => fun K r Q pv st G a w hs h hQ => by simp [acode] at h
  | .scope _ => fun K r Q pv st G a w hs h hQ => by simp [acode] at h
  | .label _ => fun K r Q pv st G a w hs h hQ => by simp [acode] at h
  | .goto _ => fun K r Q pv st G a w hs h hQ => by simp [acode] at h
  | .refuse _ => fun K r Q pv st G a w hs h hQ => by simp [acode] at h

/-! ### Results -/
theorem load_addr {T : TypeId} {u x : Value} {w w' : World} (h : (Instr.loadAt T u).run P w = .ok x w') : ∃ ad, u = .pointer (some ad) ∧ (loadVar T ad).run P w = .ok x w' := by
  unfold Instr.loadAt at h
  cases u with
  | pointer p =>
    cases p with
    | some ad => exact ⟨ad, rfl, by simpa [Instr.sureAddr] using h⟩
    | none => simp [Instr.sureAddr, stuck] at h
  | _ => simp [Instr.sureAddr, stuck] at h

theorem resVs_run (ok : TTok P E.tt) (hF : S.FrOk) {G : Gh} {st : St} {pv : List Value} {a : Act} {w : World} (hs : Sim S G st pv a w) : ∀ {rs : List ResultVar} {vs : List LV}, resVs E.tt st rs = some vs →
    ∃ us, (rs.mapM fun (x : ResultVar) => (match x with
      | .tmp t => pure (a.tmps.getD t undef)
      | .cell x t => do loadVar t (← asAddr (a.tmps.getD x undef)) : Sem Value)).run P w = .ok us w ∧ VF S G vs us
  | [], vs, h => by
    simp [resVs] at h; subst h
    exact ⟨[], by simp, trivial⟩
  | x :: rs, vs, h => by
    unfold resVs at h
    split at h
    · rename_i g l hg hl
      split at h
      · rename_i v hv
        simp at h; subst h
        obtain ⟨us, h1, h2⟩ := resVs_run ok hF hs hl
        obtain ⟨own, hh⟩ := hs.hp
        have hx : ∃ u, (match x with
            | .tmp t => pure (a.tmps.getD t undef)
            | .cell x t => do loadVar t (← asAddr (a.tmps.getD x undef)) : Sem Value).run P w = .ok u w ∧ VV S G v u := by
          cases x with
          | tmp t =>
            simp [resV] at hg; subst hg
            simp at hv; subst hv
            refine ⟨a.tmps.getD t undef, by simp, ?_⟩
            have := hs.fr.get t
            simpa [Array.getD_eq_getD_getElem?, List.getD_eq_getElem?_getD] using this
          | cell x t =>
            simp [resV] at hg; subst hg
            simp only at hv
            split at hv
            · rename_i c t' hc ht
              have hcv := hs.fr.get x
              rw [hc] at hcv
              obtain ⟨u, k1, k2⟩ := load_gives ok hF hh hs.kp (fun i => .inr rfl) ht hcv.1 hv
              obtain ⟨ad, k3, k4⟩ := load_addr k1
              refine ⟨u, ?_, k2⟩
              have e : a.tmps.getD x undef = .pointer (some ad) := by
                rw [← k3]; simp [Array.getD_eq_getD_getElem?, List.getD_eq_getElem?_getD]
              simp only [e, asAddr, Sem.run_bind, Sem.run_pure, Result.andThen_ok]
              exact k4
            · cases hv
        obtain ⟨u, k1, k2⟩ := hx
        refine ⟨u :: us, ?_, k2, h2⟩
        rw [List.mapM_cons, Sem.run_bind, k1]
        simp only [Result.andThen_ok, Sem.run_bind, h1, Sem.run_pure]
      · cases h
    · cases h

theorem results_run (ok : TTok P E.tt) (hF : S.FrOk) {G : Gh} {st : St} {pv : List Value} {a : Act} {w : World} (hs : Sim S G st pv a w) {fn : Func} {vs : List LV} (h : resVs E.tt st fn.results.toList = some vs) : ∃ us, (results fn a.tmps).run P w = .ok (retOf us) w ∧ VF S G vs us := by
  obtain ⟨us, h1, h2⟩ := resVs_run ok hF hs h
  refine ⟨us, ?_, h2⟩
  unfold results
  rw [Array.mapM_eq_mapM_toList]
  simp only [map_eq_pure_bind, bind_assoc, pure_bind]
  rw [Sem.run_bind]
  have e : (fun (x : ResultVar) => (match x with
      | .tmp t => pure (a.tmps.getD t undef)
      | .cell x t => do loadVar t (← asAddr (a.tmps.getD x undef)) : Sem Value)) = (fun (x : ResultVar) => (match x with
      | .tmp t => pure (a.tmps.getD t undef)
      | .cell x t => do loadVar t (← asAddr (a.tmps.getD x undef)) : Sem Value)) := rfl
  refine (congrArg (fun r => Result.andThen r _) h1).trans ?_
  match us with
  | [] => rfl
  | [u] => rfl
  | u :: v :: r => rfl

theorem pairs_vt {S : Sta} {G : Gh} : ∀ {vs : List LV} {ps : List (Bool × List Cv)} {us : List Value}, pairs vs = some ps → VF S G vs us → VT S G ps us
  | [], ps, [], h, _ => by simp [pairs] at h; subst h; trivial
  | .v a cs :: r, ps, u :: us, h, ⟨h1, h2⟩ => by
    simp only [pairs] at h
    split at h
    · rename_i l hl
      simp at h; subst h
      exact ⟨h1, pairs_vt hl h2⟩
    · cases h
  | .tup _ :: _, _, _, h, _ => by simp [pairs] at h
  | [], _, _ :: _, _, h => h.elim
  | .v _ _ :: _, _, [], _, h => h.elim

theorem VF.len {S : Sta} {G : Gh} : ∀ {vs : List LV} {us : List Value}, VF S G vs us → vs.length = us.length
  | [], [], _ => rfl
  | _ :: _, _ :: _, h => by simp [VF.len h.2]
  | [], _ :: _, h => h.elim
  | _ :: _, [], h => h.elim
theorem junks_vf {S : Sta} {G : Gh} (u : Value) : ∀ (n : Nat), VF S G (junks n) (List.replicate n u)
  | 0 => trivial
  | n + 1 => ⟨VV_junk S G u, junks_vf u n⟩
theorem frame_vf {S : Sta} {G : Gh} {as : List LV} {us : List Value} (h : VF S G as us) (n : Nat) : VF S G (app as (junks (n - llen as))) (us.toArray ++ Array.replicate (n - us.toArray.size) undef).toList := by
  have e : (us.toArray ++ Array.replicate (n - us.toArray.size) undef).toList = us ++ List.replicate (n - us.length) undef := by simp
  rw [e, app_eq, llen_eq, h.len]
  exact h.append (junks_vf _ _)

theorem icall_ok (ok : EnvOk P E) (hF : S.FrOk) (hm : P.follows .mixedOrders = true) : ∀ (d : Nat), IcOk P S (icall (R := R) E d)
  | 0 => fun g as H K r h => by simp [icall] at h
  | d + 1 => fun g as H K r h G own w vals hk hh hv => by
    simp only [icall, irun] at h
    split at h
    · rename_i fn hfn
      split at h
      · rename_i c hc
        obtain ⟨hP, hname⟩ := ok.body _ _ hfn
        refine ⟨⟨fn, hP, hname, by rw [hc]; rfl⟩, ?_⟩
        refine calls_of_wp hP hc ?_
        have hs : Sim S G ⟨app as (junks (fn.ntmps - llen as)), H, []⟩ [] { tmps := vals.toArray ++ Array.replicate (fn.ntmps - vals.toArray.size) undef, defers := [] } w :=
          ⟨frame_vf hv fn.ntmps, rfl, trivial, hk, own, hh⟩
        refine acode_sound ok hF hm (icall_ok ok hF hm d) false 0 c _ r _ [] _ G _ w hs h ?_
        intro e st' G' a' w' hle hs' hK
        have key : e ≠ .normal → e ≠ .ret → False := by
          intro h1 h2
          cases e with
          | normal => exact h1 rfl
          | ret => exact h2 rfl
          | exit id => simp at hK
        have hK2 : ∃ vs ps, resVs E.tt st' fn.results.toList = some vs ∧ pairs vs = some ps ∧ K (ofVs ps) st'.H = some r := by
          cases e with
          | exit id => simp at hK
          | normal =>
            simp only at hK
            split at hK
            · rename_i vs h1
              split at hK
              · rename_i ps h2; exact ⟨vs, ps, h1, h2, hK⟩
              · cases hK
            · cases hK
          | ret =>
            simp only at hK
            split at hK
            · rename_i vs h1
              split at hK
              · rename_i ps h2; exact ⟨vs, ps, h1, h2, hK⟩
              · cases hK
            · cases hK
        obtain ⟨vs, ps, h1, h2, h3⟩ := hK2
        obtain ⟨us, h4, h5⟩ := results_run ok.tt hF hs' h1
        obtain ⟨own', hh'⟩ := hs'.hp
        have hR : ∃ u v H' G' own', Ending.returned (retOf us) = .returned u ∧ Le G G' ∧ VV S G' v u ∧ Keeps S.O S.w0 w' ∧ Hs S G' own' H' w' ∧ K v H' = some r := ⟨_, _, _, G', own', rfl, hle rfl, ofVs_ret (pairs_vt h2 h5), hs'.kp, hh', h3⟩
        cases e with
        | normal => exact ⟨hs'.df, _, h4, hR⟩
        | ret => exact ⟨hs'.df, _, h4, hR⟩
        | exit id => exact (key (by simp) (by simp)).elim
      · cases h
    · cases h
end
end Go.Proofs.Ytgnnljpdcafdkaa.Ev

/- Functions: what the evaluator says of a call holds of the machine's. -/
namespace Go.Proofs.Ytgnnljpdcafdkaa.Ev
open Go

theorem outR_mk : ∀ (rs gs : List Ty) (x : Prods rs) (y : Prods gs), outR rs gs (mkOut rs gs x y) = x
  | [], [], _, _ => rfl
  | _ :: _, [], _, _ => rfl
  | [], _ :: _, _, _ => rfl
  | _ :: _, _ :: _, _, _ => rfl
theorem outG_mk : ∀ (rs gs : List Ty) (x : Prods rs) (y : Prods gs), outG rs gs (mkOut rs gs x y) = y
  | [], [], _, _ => rfl
  | _ :: _, [], _, _ => rfl
  | [], _ :: _, _, _ => rfl
  | _ :: _, _ :: _, _, _ => rfl

section
variable {P : Program} {S : Sta} {G : Gh} {own : Nat → Option Nat} {H : List Obj}

theorem ptr_eptr {t : Ty} {x : t.D} {u : Value} (h : PtrR S.Fr S.ok S.w0 t x u) : EptrOf S t x 0 u := by
  obtain ⟨ad, cs, k1, k2, k3, k4, k5⟩ := h
  exact ⟨ad, cs, k1, k2, k3, k4, by rw [k5]; simp [Addr.add]⟩

/-- one argument opened -/
theorem openP_open {p : PK} {x : p.D} {u : Value} {bs : List Nat} {bk : List (List Value)} {base : Nat} (ha : ArgV S.Fr S.ok S.w0 p x u bs bk) (hh : Hs S G own H S.w0) (hf : ∀ j, base ≤ j → hget H j = .free) (hn : bs.Nodup) (hb : ∀ b ∈ bs, own b = none ∧ (S.O b ∨ S.w0.heap.size ≤ b)) :
    ∃ G' own', Le G G' ∧ VV S G' (openP p x base).1 u ∧ Hs S G' own' (hputs H (openP p x base).2.1) S.w0 ∧ VL S G' (openP p x base).2.2 bk.flatten ∧ (∀ b, b ∉ bs → own' b = own b) ∧ (∀ b j, own b = some j → own' b = some j) ∧ ∀ q ∈ (openP p x base).2.1, q.1 < base + 1 + p.ty.nsl := by
  cases p with
  | val t =>
    obtain ⟨rfl, rfl, cs, k1, k2⟩ := ha
    exact ⟨G, own, Le.refl G, valc_va k1 (exC_vl rfl k2), hh, trivial, fun _ _ => rfl, fun _ _ h => h, fun q hq => by simp [openP] at hq⟩
  | own t =>
    obtain ⟨rfl, cs, k1, k2⟩ := ha
    obtain ⟨G', own', l, s, v, hh', o1, o2, o3⟩ := opC_open (base := base) k2 hh (fun j j1 _ => hf j j1) hn hb
    exact ⟨G', own', l, valc_va k1 v, hh', trivial, o1, o2, fun q hq => by have := opC_ids (t := t) q hq; simp only [PK.ty]; omega⟩
  | inout t =>
    obtain ⟨cs, rfl, k1, k2⟩ := ha
    obtain ⟨G', own', l, s, v, hh', o1, o2, o3⟩ := opC_open (base := base) k2 hh (fun j j1 _ => hf j j1) hn hb
    exact ⟨G', own', l, valc_va k1 v, hh', (by have := v; rw [show [cs].flatten = cs by simp]; exact this), o1, o2, fun q hq => by have := opC_ids (t := t) q hq; simp only [PK.ty]; omega⟩
  | rptr t =>
    obtain ⟨rfl, rfl, k⟩ := ha
    exact ⟨G, own, Le.refl G, show VV S G (.c (.eptr t x 0)) u from ⟨ptr_eptr k, trivial⟩, hh, trivial, fun _ _ => rfl, fun _ _ h => h, fun q hq => by simp [openP] at hq⟩
  | fn t =>
    obtain ⟨rfl, rfl, k⟩ := ha
    refine ⟨G, own, Le.refl G, show VV S G (.c (.efn x.1 t x.2)) u from ⟨?_, trivial⟩, hh, trivial, fun _ _ => rfl, fun _ _ h => h, fun q hq => by simp [openP] at hq⟩
    rcases k with k | ⟨k1, pv, k2, k3⟩
    · exact .inl k
    · exact .inr ⟨k1, pv, k2, ptr_eptr k3⟩

theorem openPs_open : ∀ {ps : List PK} {x : Ins ps} {us : List Value} {bs : List Nat} {bk : List (List Value)} {base : Nat} {G : Gh} {own : Nat → Option Nat} {H : List Obj}, ArgsV S.Fr S.ok S.w0 ps x us bs bk → Hs S G own H S.w0 → (∀ j, base ≤ j → hget H j = .free) → bs.Nodup →
    (∀ b ∈ bs, own b = none ∧ (S.O b ∨ S.w0.heap.size ≤ b)) → ∃ G' own', Le G G' ∧ VF S G' (openPs ps x base).1 us ∧ Hs S G' own' (hputs H (openPs ps x base).2.1) S.w0 ∧ VL S G' (openPs ps x base).2.2 bk.flatten
  | [], x, us, bs, bk, base, G, own, H, ha, hh, _, _, _ => by
    obtain ⟨rfl, rfl, rfl⟩ := ha
    exact ⟨G, own, Le.refl G, trivial, hh, trivial⟩
  | [p], x, us, bs, bk, base, G, own, H, ha, hh, hf, hn, hb => by
    obtain ⟨u, rfl, k⟩ := ha
    obtain ⟨G', own', l, v, hh', pn, _, _, _⟩ := openP_open (base := base) k hh hf hn hb
    exact ⟨G', own', l, ⟨v, trivial⟩, hh', pn⟩
  | p :: q :: r, x, us, bs, bk, base, G, own, H, ha, hh, hf, hn, hb => by
    obtain ⟨u, us', b1, b2, k1, k2, rfl, rfl, rfl, h1, h2⟩ := ha
    have hn' := List.nodup_append.1 hn
    obtain ⟨G1, own1, l1, v1, hh1, p1, o1, m1, i1⟩ := openP_open (base := base) h1 hh hf hn'.1 (fun b hb' => hb b (by simp [hb']))
    obtain ⟨G2, own2, l2, v2, hh2, p2⟩ := openPs_open (ps := q :: r) (base := base + 1 + p.ty.nsl) h2 hh1 (fun j hj => by
      rw [hget_hputs_out _ _ _ fun q hq => by have := i1 q hq; omega]
      exact hf j (by omega)) hn'.2.1 (fun b hb' => by
      have := hb b (by simp [hb'])
      exact ⟨by rw [o1 b fun hx => hn'.2.2 b hx b hb' rfl]; exact this.1, this.2⟩)
    refine ⟨G2, own2, l1.trans l2, ⟨v1.le l2, v2⟩, ?_, ?_⟩
    · show Hs S G2 own2 (hputs H (app _ _)) S.w0
      rw [hputs_app]; exact hh2
    · show VL S G2 (app _ _) _
      rw [app_eq, List.flatten_append]
      exact VL_append (p1.le l2) p2

def BkLen : List Ty → List (List Value) → Prop
  | [], bk => bk = []
  | t :: r, bk => ∃ cs bk', bk = cs :: bk' ∧ cs.length = t.sz ∧ BkLen r bk'
theorem BkLen.append : ∀ {ts ts' : List Ty} {bk bk' : List (List Value)}, BkLen ts bk → BkLen ts' bk' → BkLen (ts ++ ts') (bk ++ bk')
  | [], _, _, _, h, h' => by rw [show _ = _ from h]; exact h'
  | t :: r, _, _, _, ⟨cs, bk1, e, k1, k2⟩, h' => ⟨cs, bk1 ++ _, by rw [e]; rfl, k1, k2.append h'⟩
theorem argV_bk {Fr : Frn} {ok : Nat → Prop} {w : World} {p : PK} {x : p.D} {u : Value} {bs : List Nat} {bk : List (List Value)} (h : ArgV Fr ok w p x u bs bk) : BkLen (gives [p]) bk := by
  cases p with
  | val t => exact h.2.1
  | own t => exact h.1
  | inout t => obtain ⟨cs, rfl, _, k⟩ := h; exact ⟨cs, [], rfl, k.len, rfl⟩
  | rptr t => exact h.2.1
  | fn t => exact h.2.1
theorem argsV_bk {Fr : Frn} {ok : Nat → Prop} {w : World} : ∀ {ps : List PK} {x : Ins ps} {us : List Value} {bs : List Nat} {bk : List (List Value)}, ArgsV Fr ok w ps x us bs bk → BkLen (gives ps) bk
  | [], _, _, _, _, h => h.2.2
  | [p], _, _, _, _, ⟨u, _, k⟩ => argV_bk k
  | p :: q :: r, _, _, _, _, ⟨u, us', b1, b2, k1, k2, _, _, e3, h1, h2⟩ => by
    rw [gives_cons, e3]
    exact (argV_bk h1).append (argsV_bk h2)

variable {w : World} {look : Nat → Obj}

theorem takeRs_ow (hh : Hs S G own H w) (hl : LookOk look H) : ∀ {ts : List Ty} {vs : List LV} {us : List Value} {x : Prods ts} {ids : List Nat}, takeRs look ts vs = some (x, ids) → VF S G vs us → ids.Nodup →
    ∃ bs, ResV S.Fr w ts x us bs ∧ bs.Nodup ∧ ∀ b ∈ bs, ∃ i ∈ ids, own b = some i
  | [], vs, us, x, ids, h, hv, _ => by
    match vs, us, hv with
    | [], [], _ => simp [takeRs] at h; exact ⟨[], ⟨rfl, rfl⟩, List.nodup_nil, fun b hb => by simp at hb⟩
    | _ :: _, _, _ => simp [takeRs] at h
    | [], _ :: _, hv => exact hv.elim
  | [t], vs, us, x, ids, h, hv, hn => by
    match vs, us, hv with
    | [.v ag cs], [u], hv =>
      simp only [takeRs] at h
      split at h
      · rename_i hag
        split at h
        · rename_i y is ht
          simp at h
          obtain ⟨rfl, rfl⟩ := h
          obtain ⟨us', k1, k2⟩ := va_val hag hv.1
          obtain ⟨c1, u1, u2, bs, e1, e2, m1, m2, m3, m4⟩ := tkC_ow hh hl ht k2 hn
          rw [VL_nil m2, List.append_nil] at e2
          subst e2
          exact ⟨bs, ⟨u, us', rfl, k1, m1⟩, m3, m4⟩
        · cases h
      · cases h
    | [.tup _], _, _ => simp [takeRs] at h
    | [], _, _ => simp [takeRs] at h
    | _ :: _ :: _, _, _ => simp [takeRs] at h
    | [_], [], hv => exact hv.elim
    | [_], _ :: _ :: _, hv => exact hv.2.elim
  | t :: s :: r, vs, us, x, ids, h, hv, hn => by
    match vs, us, hv with
    | .v ag cs :: vs', u :: us', hv =>
      simp only [takeRs] at h
      split at h
      · rename_i hag
        split at h
        · rename_i y is ht
          split at h
          · rename_i z js hr
            simp at h
            obtain ⟨rfl, rfl⟩ := h
            rw [app_eq] at hn ⊢
            have hn' := List.nodup_append.1 hn
            obtain ⟨us1, k1, k2⟩ := va_val hag hv.1
            obtain ⟨c1, u1, u2, b1, e1, e2, m1, m2, m3, m4⟩ := tkC_ow hh hl ht k2 hn'.1
            rw [VL_nil m2, List.append_nil] at e2
            subst e2
            obtain ⟨b2, q1, q2, q3⟩ := takeRs_ow hh hl hr hv.2 hn'.2.1
            refine ⟨b1 ++ b2, ⟨u, us1, us', b1, b2, rfl, rfl, k1, m1, q1⟩, List.nodup_append.2 ⟨m3, q2, fun x hx y hy e => ?_⟩, fun b hb => ?_⟩
            · subst e
              obtain ⟨i1, hi1, e1⟩ := m4 x hx
              obtain ⟨i2, hi2, e2⟩ := q3 x hy
              rw [e1] at e2
              simp at e2; subst e2
              exact hn'.2.2 i1 hi1 i1 hi2 rfl
            · rcases List.mem_append.1 hb with hb | hb
              · obtain ⟨i1, hi1, e1⟩ := m4 b hb; exact ⟨i1, by simp [hi1], e1⟩
              · obtain ⟨i1, hi1, e1⟩ := q3 b hb; exact ⟨i1, by simp [hi1], e1⟩
          · cases h
        · cases h
      · cases h
    | .tup _ :: _, _, _ => simp [takeRs] at h
    | [], _, _ => simp [takeRs] at h
    | .v _ _ :: _, [], hv => exact hv.elim

theorem takeGs_ow (hh : Hs S G own H w) (hl : LookOk look H) : ∀ {ts : List Ty} {cs : List Cv} {bk : List (List Value)} {y : Prods ts} {ids : List Nat}, takeGs look ts cs = some (y, ids) → VL S G cs bk.flatten → BkLen ts bk → ids.Nodup →
    ∃ bs, GivV S.Fr w ts y bk bs ∧ bs.Nodup ∧ ∀ b ∈ bs, ∃ i ∈ ids, own b = some i
  | [], cs, bk, y, ids, h, hv, hb, _ => by
    cases cs with
    | nil => simp [takeGs] at h; exact ⟨[], ⟨hb, rfl⟩, List.nodup_nil, fun b hb => by simp at hb⟩
    | cons _ _ => simp [takeGs] at h
  | [t], cs, bk, y, ids, h, hv, hb, hn => by
    obtain ⟨c0, bk', rfl, k1, k2⟩ := hb
    rw [show bk' = [] from k2] at hv ⊢
    simp only [takeGs] at h
    split at h
    · rename_i x is ht
      simp at h
      obtain ⟨rfl, rfl⟩ := h
      obtain ⟨c1, u1, u2, bs, e1, e2, m1, m2, m3, m4⟩ := tkC_ow hh hl (ioC_tk ht) hv hn
      rw [VL_nil m2, List.append_nil] at e2
      have : c0 = u1 := by simpa using e2
      subst this
      exact ⟨bs, ⟨c0, rfl, m1⟩, m3, m4⟩
    · cases h
  | t :: s :: r, cs, bk, y, ids, h, hv, hb, hn => by
    obtain ⟨c0, bk', rfl, k1, k2⟩ := hb
    simp only [takeGs] at h
    split at h
    · rename_i x cs' is ht
      split at h
      · rename_i z js hr
        simp at h
        obtain ⟨rfl, rfl⟩ := h
        rw [app_eq] at hn ⊢
        have hn' := List.nodup_append.1 hn
        obtain ⟨c1, u1, u2, b1, e1, e2, m1, m2, m3, m4⟩ := tkC_ow hh hl (ioC_tk ht) hv hn'.1
        rw [List.flatten_cons] at e2
        have hsp := List.append_inj e2 (by rw [k1, m1.len])
        obtain ⟨rfl, e3⟩ := hsp
        rw [← e3] at m2
        obtain ⟨b2, q1, q2, q3⟩ := takeGs_ow (ts := s :: r) hh hl hr m2 k2 hn'.2.1
        refine ⟨b1 ++ b2, ⟨c0, bk', b1, b2, rfl, rfl, m1, q1⟩, List.nodup_append.2 ⟨m3, q2, fun x hx y hy e => ?_⟩, fun b hb => ?_⟩
        · subst e
          obtain ⟨i1, hi1, e1⟩ := m4 x hx
          obtain ⟨i2, hi2, e2⟩ := q3 x hy
          rw [e1] at e2
          simp at e2; subst e2
          exact hn'.2.2 i1 hi1 i1 hi2 rfl
        · rcases List.mem_append.1 hb with hb | hb
          · obtain ⟨i1, hi1, e1⟩ := m4 b hb; exact ⟨i1, by simp [hi1], e1⟩
          · obtain ⟨i1, hi1, e1⟩ := q3 b hb; exact ⟨i1, by simp [hi1], e1⟩
      · cases h
    · cases h
end

structure CfgOk (P : Program) (C : Cfg) : Prop where
  tt : TTok P C.tt
  body : ∀ f fn, C.body f = some fn → P.funcs[f]? = some fn ∧ (fn.name == "runtime.NumGoroutine") = false
  prim : ∀ f g, C.prim f = some g → ∀ x out, g x = some out → CallOk P (C.sg f) f x out
  mixed : P.follows .mixedOrders = true

theorem init_hs (S : Sta) : Hs S ⟨fun _ _ => none, fun _ _ _ _ _ => none⟩ (fun _ => none) [] S.w0 :=
  ⟨fun id => ⟨fun _ => rfl, fun _ _ _ _ => rfl⟩, fun b id h => by cases h⟩

theorem evF_sound {P : Program} {C : Cfg} (ok : CfgOk P C) : ∀ (k : Nat) (f : FuncId) (x : Ins (C.sg f).ps) (out : (C.sg f).Out), evF C k f x = some out → CallOk P (C.sg f) f x out
  | 0, f, x, out, h => by simp [evF] at h
  | k + 1, f, x, out, h => by
    unfold evF at h
    split at h
    · rename_i g hg
      exact ok.prim f g hg x out h
    · split at h
      · rename_i fn hfn
        split at h
        · rename_i c hc
          obtain ⟨hP, hname⟩ := ok.body _ _ hfn
          have hE : EnvOk P (envOf C (evF C k)) := ⟨ok.tt, fun f x out h => evF_sound ok k f x out h, ok.body⟩
          refine ⟨⟨fn, hP, hname, by rw [hc]; rfl⟩, ?_⟩
          intro w Fr us bs bk hF ha hn
          refine calls_of_wp hP hc ?_
          have hFS : Sta.FrOk ⟨w, (· ∈ bs), Fr⟩ := hF
          obtain ⟨G1, own1, _, v1, hh1, p1⟩ := openPs_open (S := ⟨w, (· ∈ bs), Fr⟩) (base := 0) ha (init_hs ⟨w, (· ∈ bs), Fr⟩) (fun j _ => rfl) hn (fun b hb => ⟨rfl, .inl hb⟩)
          have hs : Sim ⟨w, (· ∈ bs), Fr⟩ G1 (initSt C f fn x) bk.flatten { tmps := us.toArray ++ Array.replicate (fn.ntmps - us.toArray.size) undef, defers := [] } w :=
            ⟨frame_vf v1 fn.ntmps, rfl, p1, Keeps.refl _ w, own1, hh1⟩
          refine acode_sound hE hFS ok.mixed (icall_ok hE hFS ok.mixed 4) true k c _ out _ bk.flatten _ G1 _ w hs h ?_
          intro e st' G' a' w' _ hs' hK
          have hK2 : e ≠ .normal ∧ e ≠ .ret ∨ ∃ vs x ids y js, resVs C.tt st' fn.results.toList = some vs ∧ takeRs (hget st'.H) (C.sg f).rs vs = some (x, ids) ∧ takeGs (hget st'.H) (gives (C.sg f).ps) st'.pins = some (y, js) ∧ ndup (app ids js) = true ∧ out = mkOut (C.sg f).rs (gives (C.sg f).ps) x y := by
            have fin : (match resVs C.tt st' fn.results.toList with
                | some vs => match takeRs (hget st'.H) (C.sg f).rs vs with
                  | some (x, ids) => match takeGs (hget st'.H) (gives (C.sg f).ps) st'.pins with
                    | some (y, js) => if ndup (app ids js) = true then some (mkOut (C.sg f).rs (gives (C.sg f).ps) x y) else none
                    | none => none
                  | none => none
                | none => none) = some out → ∃ vs x ids y js, resVs C.tt st' fn.results.toList = some vs ∧ takeRs (hget st'.H) (C.sg f).rs vs = some (x, ids) ∧ takeGs (hget st'.H) (gives (C.sg f).ps) st'.pins = some (y, js) ∧ ndup (app ids js) = true ∧ out = mkOut (C.sg f).rs (gives (C.sg f).ps) x y := by
              intro h
              split at h
              · rename_i vs h1
                split at h
                · rename_i x ids h2
                  split at h
                  · rename_i y js h3
                    split at h
                    · rename_i h4
                      simp at h
                      exact ⟨vs, x, ids, y, js, h1, h2, h3, h4, h.symm⟩
                    · cases h
                  · cases h
                · cases h
              · cases h
            cases e with
            | exit id => exact .inl ⟨by simp, by simp⟩
            | normal => exact .inr (fin hK)
            | ret => exact .inr (fin hK)
          have hK3 : e = .normal ∨ e = .ret := by
            cases e with
            | exit id => simp [finK] at hK
            | normal => exact .inl rfl
            | ret => exact .inr rfl
          rcases hK2 with ⟨h1, h2⟩ | ⟨vs, y, ids, z, js, h1, h2, h3, h4, rfl⟩
          · rcases hK3 with h | h
            · exact absurd h h1
            · exact absurd h h2
          · obtain ⟨rus, h5, h6⟩ := results_run ok.tt hFS hs' (E := envOf C (evF C k)) h1
            obtain ⟨own', hh'⟩ := hs'.hp
            rw [ndup_iff, app_eq] at h4
            have hn' := List.nodup_append.1 h4
            obtain ⟨r1, q1, q2, q3⟩ := takeRs_ow hh' (fun i => .inr rfl) h2 h6 hn'.1
            obtain ⟨r2, q4, q5, q6⟩ := takeGs_ow hh' (fun i => .inr rfl) h3 hs'.pins (argsV_bk ha) hn'.2.1
            have hR : ∃ (vs : List Value) (r1 r2 : List Nat), Ending.returned (retOf rus) = .returned (retOf vs) ∧ Keeps (· ∈ bs) w w' ∧ ResV Fr w' (C.sg f).rs (outR (C.sg f).rs (gives (C.sg f).ps) (mkOut (C.sg f).rs (gives (C.sg f).ps) y z)) vs r1 ∧ GivV Fr w' (gives (C.sg f).ps) (outG (C.sg f).rs (gives (C.sg f).ps) (mkOut (C.sg f).rs (gives (C.sg f).ps) y z)) bk r2 ∧
                (r1 ++ r2).Nodup ∧ ∀ b ∈ r1 ++ r2, b ∈ bs ∨ w.heap.size ≤ b := by
              refine ⟨rus, r1, r2, rfl, hs'.kp, by rw [outR_mk]; exact q1, by rw [outG_mk]; exact q4, List.nodup_append.2 ⟨q2, q5, fun x hx y hy e => ?_⟩, fun b hb => ?_⟩
              · subst e
                obtain ⟨i1, hi1, e1⟩ := q3 x hx
                obtain ⟨i2, hi2, e2⟩ := q6 x hy
                rw [e1] at e2
                simp at e2; subst e2
                exact hn'.2.2 i1 hi1 i1 hi2 rfl
              · have : ∃ i, own' b = some i := by
                  rcases List.mem_append.1 hb with hb | hb
                  · obtain ⟨i, _, e⟩ := q3 b hb; exact ⟨i, e⟩
                  · obtain ⟨i, _, e⟩ := q6 b hb; exact ⟨i, e⟩
                obtain ⟨i, e⟩ := this
                exact (hh'.own b i e).2
            rcases hK3 with rfl | rfl
            · exact ⟨hs'.df, _, h5, hR⟩
            · exact ⟨hs'.df, _, h5, hR⟩
        · cases h
      · cases h
end Go.Proofs.Ytgnnljpdcafdkaa.Ev
