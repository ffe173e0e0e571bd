/- A part of a proof: an evaluator of the program's functions over plain values, and what it shows. -/
import Derived.Test.YtgnnljpdcafdkaaEv2
set_option linter.unusedVariables false
set_option linter.unusedSimpArgs false
set_option linter.unusedSectionVars false
/- append: what the machine does, and what it comes to. -/
namespace Go.Proofs.Ytgnnljpdcafdkaa.Ev
open Go

section
variable {P : Program} {w : World}

theorem keeps_drew (w : World) (O : Nat → Prop) : Keeps O w w.drew := (Keeps.refl O w).drew

/-- there is room -/
theorem app_room {tt : TT} (ok : TTok P tt) {T T2 ty e : TypeId} {t : Ty} (hT : tt.elem T = some e) (he : tt.shape e = some t) {b o len c n : Nat} {cur : Array Value} {y : Value} {news : List Value} (hs : Src P t.sz T2 y n news w) (hb : w.heap[b]? = some (.cells cur e (0, 0)))
    (hfit : o + c * t.sz ≤ cur.size) (hroom : len + n ≤ c) :
    (Builtin.append_ #[T, T2] ty #[.slice (some ⟨b, o, none⟩) len c, y]).run P w = .ok (.slice (some ⟨b, o, none⟩) (len + n) c) (w.setRow b (cur.toList.take (o + len * t.sz) ++ news ++ cur.toList.drop (o + len * t.sz + news.length)).toArray) := by
  obtain ⟨i, z, k1, k2, k3, k4, k5⟩ := ok.shape _ _ he
  have hl := hs.newsLen
  have hle : o + len * t.sz + news.length ≤ cur.size := by
    have : (len + n) * t.sz ≤ c * t.sz := Nat.mul_le_mul_right _ hroom
    rw [Nat.add_mul] at this
    omega
  have hr := run_append_room_src w T T2 ty e i (ok.elem _ _ hT) k1 b o len c y n news (by rw [k2]; exact hs) hroom (fun j hj => by
    rw [cell_of hb, k2]
    have : o + len * t.sz + j < cur.toList.length := by simp; omega
    simp [List.getElem?_eq_getElem this]) (fun j hj => by simp [World.frozen?, hb])
  rw [hr, k2, setCells_setRow news _ w cur hb hle]

/-- there is none -/
theorem app_grow {tt : TT} (ok : TTok P tt) {T T2 ty e : TypeId} {t : Ty} (hT : tt.elem T = some e) (he : tt.shape e = some t) {base : Option Addr} {len c n : Nat} {olds : List Value} {y : Value} {news : List Value} (hs : Src P t.sz T2 y n news w)
    (hold : (Builtin.firstCells t.sz len (.slice base len c)).run P w.drew = .ok olds.toArray w.drew) (hlo : olds.length = len * t.sz) (hg : c < len + n) (hlim : len + n ≤ LIM tt e) (hmax : len + n ≤ 9223372036854775807) :
    ∃ (cap : Nat) (rest : List Value), len + n ≤ cap ∧ cap ≤ 9223372036854775807 ∧ (olds ++ news ++ rest).length = cap * t.sz ∧
      (Builtin.append_ #[T, T2] ty #[.slice base len c, y]).run P w = .ok (.slice (some ⟨w.heap.size, 0, none⟩) (len + n) cap) (w.drew.alloc (.cells (olds ++ news ++ rest).toArray e)) := by
  obtain ⟨i, z, k1, k2, k3, k4, k5⟩ := ok.shape _ _ he
  have hl := hs.newsLen
  have hb := LIM_bytes tt e hlim
  have hr := run_append_grow_src w T T2 ty e i z (ok.elem _ _ hT) k1 k4 base len c olds (by rw [k2]; exact hold) y n news (by rw [k2]; exact hs) hg (by omega) (growslice_fits hg (by rw [k3]; exact hb))
  have hge := grownCap_ge w (len + n) c e
  have hcm := grownCap_le_maxLen w (len + n) c e (by unfold maxLen; omega)
  unfold maxLen at hcm
  have hzs : z.cells.size = t.sz := by rw [k5]; simp [zeroVs_len]
  refine ⟨grownCap w (len + n) c e, (Builtin.zeroCells z.cells (grownCap w (len + n) c e - (len + n))).toList, hge, by omega, ?_, ?_⟩
  · simp only [List.length_append, Array.length_toList, size_zeroCells, hzs, hlo, hl]
    rw [← Nat.add_mul, ← Nat.add_mul]
    congr 1; omega
  · rw [hr]
    congr 3
    apply Array.ext'
    simp
end

theorem seg_drop {α : Type} (L vs : List α) (o a : Nat) (h : o + a ≤ L.length) : (L.take (o + a) ++ vs ++ L.drop (o + a + vs.length)).drop o = (L.drop o).take a ++ vs ++ L.drop (o + a + vs.length) := by
  rw [List.append_assoc, List.drop_append_of_le_length (by rw [List.length_take]; omega), List.drop_take, show o + a - o = a by omega, List.append_assoc]

section
variable {P : Program} {S : Sta} {G : Gh} {w w' : World} {own : Nat → Option Nat} {H : List Obj} {look : Nat → Obj}

/-- a row of our own, laid anew -/
theorem turn_row (hh : Hs S G own H w) {id gen m : Nat} {e0 : TypeId} {t0 : Ty} {ex0 : Option Nat} {le0 : Option (Nat × Nat)} {xs0 : List t0.D} (hlk : hget H id = .row e0 t0 gen m ex0 le0 xs0) {ids : List Nat} (hid : id ∉ ids)
    {p : Place} {e : TypeId} {t : Ty} {ex : Option Nat} {xs : List t.D} {s : Sem Value} {u : Value} (psz : p.sz = t.sz) (plen : p.len = xs.length) (proom : xs.length + ex.getD 0 ≤ p.room)
    (hb : ∀ b, b < w.heap.size → own b ≠ some id → w'.heap[b]? = w.heap[b]?) (hsz : w.heap.size ≤ w'.heap.size) (hk0 : S.w0.heap.size ≤ w.heap.size) (hk : Keeps S.O S.w0 w')
    (hp : match p.blk with
      | none => xs = [] ∧ ex.getD 0 = 0
      | some b => ∃ (cur : Array Value) (bs : List Nat), w'.heap[b]? = some (.cells cur e (0, 0)) ∧ cur.size = p.lim ∧ p.base + (xs.length + ex.getD 0) * t.sz ≤ p.lim ∧
          OwE (OwT S.Fr w' t) t.sz xs (cur.toList.drop p.base) bs ∧ (b :: bs).Nodup ∧ ∀ x ∈ b :: bs, own x = some id ∨ (∃ i ∈ ids, own x = some i) ∨ (w.heap.size ≤ x ∧ x < w'.heap.size))
    (hr : s.run P w = .ok u w') (hu : PartOf p 0 xs.length u) : Does P S G H s w (.c (.own id (gen + 1))) ((id, .row e t (gen + 1) m ex none xs) :: deads ids) := by
  have hob := hh.obj id
  rw [hlk] at hob
  obtain ⟨_, hφ, hν, _⟩ := hob
  have hlt : ∀ b j, own b = some j → b < w.heap.size := fun b j h => (hh.own b j h).1
  have fin : ∀ (bl : List Nat), (∀ x ∈ bl, own x = some id ∨ (∃ i ∈ ids, own x = some i) ∨ (w.heap.size ≤ x ∧ x < w'.heap.size)) →
      (match p.blk with
      | none => xs = [] ∧ ex.getD 0 = 0
      | some b => ∃ (cur : Array Value) (bs : List Nat), w'.heap[b]? = some (.cells cur e (0, 0)) ∧ cur.size = p.lim ∧ p.base + (xs.length + ex.getD 0) * t.sz ≤ p.lim ∧
          OwE (OwT S.Fr w' t) t.sz xs (cur.toList.drop p.base) bs ∧ (b :: bs).Nodup ∧ ∀ x ∈ b :: bs, give (kill own ids) bl id x = some id) →
      Does P S G H s w (.c (.own id (gen + 1))) ((id, .row e t (gen + 1) m ex none xs) :: deads ids) := by
    intro bl hbl hp'
    obtain ⟨G', l, e1, _, hh'⟩ := put_row (w' := w') (own' := give (kill own ids) bl id) (g := gen + 1) (m := m) (p := p) (e := e) (t := t) (ex := ex) (xs := xs) (hh.kill ids) (.inl (hφ _ (Nat.lt_succ_self _))) (fun g' hg => hφ g' (by omega)) (fun g' m' hg i o => hν g' m' (by omega) i o)
      psz plen proom (fun b j hb' hj => hb b (hlt b j (kill_some.1 hb').1) (fun e => hj (by rw [(kill_some.1 hb').1] at e; simpa using e))) (fun b j hb' hj => by
        unfold give
        split
        · rename_i hm
          exfalso
          obtain ⟨k1, k2⟩ := kill_some.1 hb'
          rcases hbl b hm with h | ⟨i, h1, h2⟩ | h
          · rw [k1] at h; exact hj (by simpa using h)
          · rw [k1] at h2
            simp at h2; subst h2
            exact k2 h1
          · have := hlt _ _ k1; omega
        · exact hb') (fun b j hb' => by
        unfold give at hb'
        split at hb'
        · rename_i hm
          rcases hbl b hm with h | ⟨i, h1, h2⟩ | h
          · exact ⟨Nat.lt_of_lt_of_le (hlt b id h) hsz, (hh.own b id h).2⟩
          · exact ⟨Nat.lt_of_lt_of_le (hlt b i h2) hsz, (hh.own b i h2).2⟩
          · exact ⟨h.2, .inr (by omega)⟩
        · exact ⟨Nat.lt_of_lt_of_le (hlt b j (kill_some.1 hb').1) hsz, (hh.own b j (kill_some.1 hb').1).2⟩) hp'
    refine ⟨u, w', G', _, hr, l, ⟨⟨p, e1, by unfold OwnOf; rw [plen]; exact hu⟩, trivial⟩, hk, hh'.congr fun j => ?_⟩
    simp only [hputs]
    rw [hget_deads, hget_hput, hget_hput, hget_deads]
    by_cases e : id = j
    · subst e
      rw [if_neg hid]; simp
    · simp [e]
  cases hblk : p.blk with
  | none =>
    rw [hblk] at hp
    exact fin [] (fun x hx => by simp at hx) (by rw [hblk]; exact hp)
  | some b =>
    rw [hblk] at hp
    obtain ⟨cur, bs, k1, k2, k3, k4, k5, k6⟩ := hp
    exact fin (b :: bs) k6 (by rw [hblk]; exact ⟨cur, bs, k1, k2, k3, k4, k5, fun x hx => by unfold give; rw [if_pos hx]⟩)

/-- onto a part of a row of our own -/
theorem part_does {tt : TT} (ok : TTok P tt) (hF : S.FrOk) (hk : Keeps S.O S.w0 w) (hh : Hs S G own H w) {T T2 ty e : TypeId} {t : Ty} (hT : tt.elem T = some e) (he : tt.shape e = some t) {id gen m : Nat} {ex : Option Nat} {xs : List t.D} (hlk : hget H id = .row e t gen m ex none xs)
    {p : Place} (hp : G.φ id gen = some p) {off len : Nat} (hlen : off + len ≤ p.len) {u : Value} (hu : PartOf p off len u) {y : Value} {ys : List t.D} {ids : List Nat} {news : List Value} {bs : List Nat} (ha : Adds P S w own t T2 y ys ids news bs) (hid : id ∉ ids)
    (hlim : len + ys.length ≤ LIM tt e) (hmax : len + ys.length ≤ 9223372036854775807) {ex' : Option Nat} (hex : ex'.getD 0 ≤ xs.length + ex.getD 0 - off - (len + ys.length)) :
    Does P S G H (Builtin.append_ #[T, T2] ty #[u, y]) w (.c (.own id (gen + 1))) ((id, .row e t (gen + 1) m ex' none ((xs.drop off).take len ++ ys)) :: deads ids) := by
  have hob := hh.obj id
  rw [hlk] at hob
  obtain ⟨_, _, _, q, h4, h5, h6, hr, h7⟩ := hob
  rw [hp] at h4
  obtain rfl : p = q := by simpa using h4
  have hzl : ((xs.drop off).take len ++ ys).length = len + ys.length := by simp; omega
  have hxl : ((xs.drop off).take len).length = len := by simp; omega
  obtain ⟨hs, A, l, c, hu2, hroom⟩ := hu
  unfold SlOf at hs
  have hlt : ∀ b j, own b = some j → b < w.heap.size := fun b j h => (hh.own b j h).1
  have hnl := ha.src.newsLen
  -- the arm that grows, out of a source of old cells
  have grow : ∀ (base : Option Addr) (olds : List Value) (b0 : List Nat), u = .slice base len c → c < len + ys.length → (Builtin.firstCells t.sz len (.slice base len c)).run P w.drew = .ok olds.toArray w.drew → olds.length = len * t.sz →
      OwE (OwT S.Fr w t) t.sz ((xs.drop off).take len) olds b0 → b0.Nodup → (∀ b ∈ b0, own b = some id) → Does P S G H (Builtin.append_ #[T, T2] ty #[u, y]) w (.c (.own id (gen + 1))) ((id, .row e t (gen + 1) m ex' none ((xs.drop off).take len ++ ys)) :: deads ids) := by
    intro base olds b0 hu3 hg hold hlo how hn0 hb0
    obtain ⟨cap, rest, g1, g2, g3, g4⟩ := app_grow ok hT he (ty := ty) ha.src hold hlo hg hlim hmax
    have hbl : ∀ b ∈ b0 ++ bs, own b = some id ∨ ∃ i ∈ ids, own b = some i := fun b hb => by
      rcases List.mem_append.1 hb with hb | hb
      · exact .inl (hb0 b hb)
      · exact .inr (ha.own b hb)
    have hblt : ∀ b ∈ b0 ++ bs, b < w.heap.size := fun b hb => by
      rcases hbl b hb with h | ⟨i, _, h⟩
      · exact hlt _ _ h
      · exact hlt _ _ h
    have hold' : ∀ b, b < w.heap.size → (w.drew.alloc (.cells (olds ++ news ++ rest).toArray e)).heap[b]? = w.heap[b]? := fun b hb => heap_alloc_old w.drew _ hb
    refine turn_row (w' := w.drew.alloc (.cells (olds ++ news ++ rest).toArray e)) (p := ⟨some w.heap.size, 0, t.sz, len + ys.length, cap * t.sz, len + ys.length⟩) hh hlk hid rfl hzl.symm (by rw [hzl]; show _ ≤ len + ys.length; omega) (fun b hb _ => hold' b hb)
      (by rw [size_alloc]; exact Nat.le_succ _) hk.size ((hk.drew).alloc _) ⟨_, b0 ++ bs, heap_alloc_new w.drew _, by rw [List.size_toArray]; exact g3, ?_, ?_, ?_, ?_⟩ (by rw [hu3]; exact g4) ⟨⟨0, cap, by rw [hzl], by rw [hzl]; exact g1, g2, by simp, fun _ => by simp⟩, _, _, _, rfl, by simpa using g1⟩
    · rw [hzl]
      have : (len + ys.length + ex'.getD 0) * t.sz ≤ cap * t.sz := Nat.mul_le_mul_right _ (by omega)
      simpa using this
    · have h1 := (how.append (by rw [hxl]; exact hlo) ha.ow).more (ds := rest) (by rw [hzl, List.length_append, hlo, hnl, Nat.add_mul]; exact Nat.le_refl _)
      simpa using h1.stay fun b hb => hold' b (hblt b hb)
    · refine List.nodup_cons.2 ⟨fun h => by have := hblt _ h; omega, List.nodup_append.2 ⟨hn0, ha.nd, fun a h1 b h2 e => ?_⟩⟩
      subst e
      obtain ⟨i, h3, h4⟩ := ha.own a h2
      rw [hb0 a h1] at h4
      simp at h4; subst h4
      exact hid h3
    · intro x hx
      rcases List.mem_cons.1 hx with rfl | hx
      · exact .inr (.inr ⟨Nat.le_refl _, by rw [size_alloc]; exact Nat.lt_succ_self _⟩)
      · rcases hbl x hx with h | h
        · exact .inl h
        · exact .inr (.inl h)
  cases hblk : p.blk with
  | none =>
    rw [hblk] at hs h7
    obtain ⟨rfl, hex0⟩ := h7
    obtain ⟨e1, hl0⟩ := hs
    rw [e1] at hu2
    simp at hu2
    obtain ⟨rfl, rfl, rfl⟩ := hu2
    subst hl0
    by_cases hy : ys.length = 0
    · have hys : ys = [] := List.eq_nil_of_length_eq_zero hy
      subst hys
      obtain ⟨i, z, k1, k2, k3, k4, k5⟩ := ok.shape _ _ he
      have hr0 : (Builtin.append_ #[T, T2] ty #[u, y]).run P w = .ok (.slice none 0 0) w := by
        have hsrc := ha.src
        have hne : news = [] := by simpa using hnl
        have hcz : (Builtin.firstCells t.sz 0 y).run P w = .ok #[] w := by have := hsrc.cells; rw [hne] at this; simpa using this
        rw [e1]
        rcases hsrc.kind with ⟨e', hkd⟩ | hkd <;> simp [Builtin.append_, run_underlying (ok.elem _ _ hT), run_underlying hkd, sizeOf, typeInfo, k1, hsrc.len, k2, hcz]
      have hsrc := ha.src
      refine turn_row (w' := w) (p := ⟨none, 0, t.sz, 0, 0, 0⟩) hh hlk hid rfl (by simp) ?_ (fun _ _ _ => rfl) (Nat.le_refl _) hk.size hk ⟨by simp, by simp at hex ⊢; omega⟩ hr0 ⟨⟨rfl, by simp⟩, _, _, _, rfl, Nat.zero_le _⟩
      simp at hex ⊢
      omega
    · exact grow none [] [] e1 (by omega) (run_firstCells_none _ _ _ _ _) (by simp) (by simp; rfl) List.nodup_nil (fun b hb => by simp at hb)
  | some b =>
    rw [hblk] at hs h7
    obtain ⟨cur, b1, l1, l2, l3, l4, l5, l6, l7⟩ := h7
    obtain ⟨o, c', e1, k1, k2, k3, k4⟩ := hs
    rw [e1] at hu2
    simp at hu2
    obtain ⟨rfl, rfl, rfl⟩ := hu2
    have hcu : cur.toList.length = cur.size := Array.length_toList
    obtain ⟨c1, s1, m1⟩ := l4.drop off
    obtain ⟨c2, s2, m2⟩ := m1.take len
    have hsub : c2.Sublist b1 := s2.trans s1
    have hnd := List.nodup_cons.1 l5
    by_cases hg : c' < len + ys.length
    · have hcell : ∀ (j : Nat) v, ((cur.toList.drop o).take (len * t.sz))[j]? = some v → w.drew.cell? ((⟨b, o, none⟩ : Addr).add j) = some v := fun j v hv => by
        rw [List.getElem?_take] at hv
        split at hv
        · rw [add_none, cell_of (w := w.drew) l1, ← List.getElem?_drop]; exact hv
        · cases hv
      have hcl : ((cur.toList.drop o).take (len * t.sz)).length = len * t.sz := by
        have : len * t.sz ≤ c' * t.sz := Nat.mul_le_mul_right _ k1
        rw [h5] at k3
        rw [List.length_take, List.length_drop, hcu, l2]
        omega
      refine grow (some ⟨b, o, none⟩) ((cur.toList.drop o).take (len * t.sz)) (if len = 0 then [] else c2) e1 hg (run_firstCells_some _ _ _ _ _ _ _ hcl hcell) hcl ?_ ?_ ?_
      · by_cases h0 : len = 0
        · subst h0; simp; rfl
        · rw [if_neg h0]
          have := m2.cut
          rw [hxl, List.drop_drop] at this
          rw [k4 (by omega), h5]
          exact this
      · split
        · exact List.nodup_nil
        · exact List.Nodup.sublist hsub hnd.2
      · intro x hx
        split at hx
        · simp at hx
        · exact l6 x (by simp [hsub.subset hx])
    · have hle : len + ys.length ≤ c' := by omega
      by_cases hy0 : len + ys.length = 0
      · -- nothing there, nothing appended: the address may be any
        have hl0 : len = 0 := by omega
        have hys : ys = [] := List.eq_nil_of_length_eq_zero (by omega)
        subst hl0 hys
        rw [h5] at k3
        have hr0 := app_room ok hT he (ty := ty) ha.src l1 (by rw [l2]; exact k3) hle
        have hne : news = [] := by simpa using hnl
        subst hne
        simp only [Nat.zero_mul, Nat.add_zero, List.append_nil, List.length_nil, List.take_append_drop, Array.toArray_toList] at hr0
        rw [setRow_self w b cur e (0, 0) l1] at hr0
        refine turn_row (w' := w) (p := ⟨some b, p.base + off * t.sz, t.sz, 0, p.lim, p.room - off⟩) hh hlk hid rfl (by simp) ?_ (fun _ _ _ => rfl) (Nat.le_refl _) hk.size hk ⟨cur, [], l1, l2, ?_, by simp; rfl, by simp, fun x hx => .inl (l6 x (by simp at hx; simp [hx]))⟩ (by rw [e1]; exact hr0) ⟨⟨o, c', by simp, by simp, k2, k3, fun hc => by simp; rw [k4 hc, h5]⟩, _, _, _, rfl, ?_⟩
        · simp at hex ⊢; omega
        · have : (off + ex'.getD 0) * t.sz ≤ (xs.length + ex.getD 0) * t.sz ∨ ex'.getD 0 = 0 := by
            by_cases h0 : ex'.getD 0 = 0
            · exact .inr h0
            · exact .inl (Nat.mul_le_mul_right _ (by simp at hex; omega))
          rcases this with h | h
          · rw [Nat.add_mul] at h
            simp
            omega
          · have h8 : off * t.sz ≤ (xs.length + ex.getD 0) * t.sz := Nat.mul_le_mul_right _ (by omega)
            simp [h]
            omega
        · simp; omega
      · have ho := k4 (by omega)
        rw [h5] at k3 ho
        have hr0 := app_room ok hT he (ty := ty) ha.src l1 (by rw [l2]; exact k3) hle
        have hcl : len * t.sz + ys.length * t.sz ≤ c' * t.sz := by rw [← Nat.add_mul]; exact Nat.mul_le_mul_right _ hle
        have hfit : o + len * t.sz + news.length ≤ cur.size := by rw [l2, hnl]; omega
        have hsz := seg_size cur (o + len * t.sz) news hfit
        have hkw := keeps_setRow l1 hsz
        have hown := l6 b (by simp)
        have hcut : ∀ x ∈ c2 ++ bs, x ≠ b := fun x hx e => by
          subst e
          rcases List.mem_append.1 hx with hx | hx
          · exact hnd.1 (hsub.subset hx)
          · obtain ⟨i, h1, h2⟩ := ha.own x hx
            rw [hown] at h2
            simp at h2; subst h2
            exact hid h1
        have hol : ∀ x ∈ c2 ++ bs, x < w.heap.size := fun x hx => by
          rcases List.mem_append.1 hx with hx | hx
          · exact hlt _ _ (l6 x (by simp [hsub.subset hx]))
          · obtain ⟨i, _, h2⟩ := ha.own x hx
            exact hlt _ _ h2
        refine turn_row (w' := w.setRow b (cur.toList.take (o + len * t.sz) ++ news ++ cur.toList.drop (o + len * t.sz + news.length)).toArray) (p := ⟨some b, p.base + off * t.sz, t.sz, len + ys.length, p.lim, max (p.room - off) (len + ys.length)⟩) hh hlk hid rfl hzl.symm ?_
          (fun x hx hne => hkw.block x hx fun e => hne (by rw [e]; exact hown)) hkw.size hk.size (hk.step hkw fun z hz => by subst hz; exact (hh.own _ _ hown).2) ⟨_, c2 ++ bs, setRow_heap w b cur _ e (0, 0) l1, hsz.trans l2, ?_, ?_, ?_, ?_⟩ (by rw [e1]; exact hr0)
          ⟨⟨o, c', by rw [hzl], by rw [hzl]; exact hle, k2, k3, fun _ => by simp [ho]⟩, _, _, _, rfl, ?_⟩
        · rw [hzl]
          simp only
          by_cases h0 : ex'.getD 0 = 0
          · rw [h0]; omega
          · omega
        · rw [hzl]
          simp only
          by_cases h0 : ex'.getD 0 = 0
          · rw [h0, ← ho, Nat.add_zero, Nat.add_mul]; omega
          · have : (off + (len + ys.length + ex'.getD 0)) * t.sz ≤ (xs.length + ex.getD 0) * t.sz := Nat.mul_le_mul_right _ (by omega)
            rw [Nat.add_mul] at this
            omega
        · have hm := (m2.cut.append (by rw [hxl, List.length_take]; rw [List.length_drop, List.length_drop, hcu, l2]; omega) ha.ow).stay (w' := w.setRow b (cur.toList.take (o + len * t.sz) ++ news ++ cur.toList.drop (o + len * t.sz + news.length)).toArray) fun x hx => hkw.block x (hol x hx) (hcut x hx)
          have hsg := seg_drop cur.toList news o (len * t.sz) (by rw [hcu, l2]; omega)
          rw [List.drop_drop, ← ho] at hm
          have hm2 := hm.more (ds := cur.toList.drop (o + len * t.sz + news.length)) (by rw [hzl, List.length_append, hxl, List.length_take, List.length_drop, hcu, l2, hnl, Nat.add_mul]; omega)
          rw [hxl, ← hsg] at hm2
          simp only
          rw [← ho]
          exact hm2
        · refine List.nodup_cons.2 ⟨fun h => hcut b h rfl, List.nodup_append.2 ⟨List.Nodup.sublist hsub hnd.2, ha.nd, fun a h1 x h2 e => ?_⟩⟩
          subst e
          obtain ⟨i, h3, h4⟩ := ha.own a h2
          rw [l6 a (by simp [hsub.subset h1])] at h4
          simp at h4; subst h4
          exact hid h3
        · intro x hx
          rcases List.mem_cons.1 hx with rfl | hx
          · exact .inl hown
          · rcases List.mem_append.1 hx with hx | hx
            · exact .inl (l6 x (by simp [hsub.subset hx]))
            · exact .inr (.inl (ha.own x hx))
        · simp only
          omega
end
end Go.Proofs.Ytgnnljpdcafdkaa.Ev

/- append, joined; clear of a tail. -/
namespace Go.Proofs.Ytgnnljpdcafdkaa.Ev
open Go

section
variable {P : Program} {S : Sta} {G : Gh} {w : World} {own : Nat → Option Nat} {H : List Obj} {look : Nat → Obj}

theorem LIM_max (tt : TT) (e : TypeId) {n : Nat} (h : n ≤ LIM tt e) : n ≤ 9223372036854775807 := by
  unfold LIM at h
  have := Nat.div_le_self 140737488355328 (tt.bytes e)
  omega

theorem append_does {tt : TT} (ok : TTok P tt) (hF : S.FrOk) (hk : Keeps S.O S.w0 w) (hh : Hs S G own H w) (hl : LookOk look H) {id0 : Nat} (hf : hget H id0 = .free) {T T2 ty e : TypeId} {t : Ty} (hT : tt.elem T = some e) (he : tt.shape e = some t)
    {c c' : Cv} {u y : Value} {ys : List t.D} {ids : List Nat} {news : List Value} {bs : List Nat} {us : List (Nat × Obj)} (hc : VC S G c u) (ha : Adds P S w own t T2 y ys ids news bs) (hlive : ∀ i ∈ ids, hget H i ≠ .free)
    (h : appendK tt look id0 e t c ys ids (fun c us => some (c, us)) = some (c', us)) : Does P S G H (Builtin.append_ #[T, T2] ty #[u, y]) w (.c c') us := by
  unfold appendK at h
  split at h
  · split at h
    · rename_i hlim
      simp at h
      obtain ⟨rfl, rfl⟩ := h
      rw [show u = _ from hc]
      have hid : id0 ∉ ids := fun hi => hlive _ hi hf
      by_cases hy : ys.length = 0
      · have hys : ys = [] := List.eq_nil_of_length_eq_zero hy
        subst hys
        have hnl := ha.src.newsLen
        have hne : news = [] := by simpa using hnl
        obtain ⟨i, z, k1, k2, k3, k4, k5⟩ := ok.shape _ _ he
        have hsrc := ha.src
        have hr0 : (Builtin.append_ #[T, T2] ty #[.slice none 0 0, y]).run P w = .ok (.slice none 0 0) w := by
          have hcz : (Builtin.firstCells t.sz 0 y).run P w = .ok #[] w := by have := hsrc.cells; rw [hne] at this; simpa using this
          rcases hsrc.kind with ⟨e', hkd⟩ | hkd <;> simp [Builtin.append_, run_underlying (ok.elem _ _ hT), run_underlying hkd, sizeOf, typeInfo, k1, hsrc.len, k2, hcz]
        have hfree := hh.obj id0
        rw [hf] at hfree
        obtain ⟨G', l, hφ, _, hh'⟩ := put_row (own' := kill own ids) (w' := w) (id := id0) (g := 0) (m := 0) (p := ⟨none, 0, t.sz, 0, 0, 0⟩) (e := e) (t := t) (ex := none) (xs := []) (hh.kill ids) (.inl (hfree.1 0)) (fun g' _ => hfree.1 g') (fun g' m' _ i o => hfree.2 g' m' i o)
          rfl rfl (by simp) (fun _ _ _ _ => rfl) (fun _ _ h _ => h) (hh.kill ids).own ⟨rfl, rfl⟩
        refine ⟨_, _, G', _, hr0, l, ⟨⟨_, hφ, ⟨rfl, rfl⟩, _, _, _, rfl, Nat.zero_le _⟩, trivial⟩, hk, hh'.congr fun j => ?_⟩
        simp only [hputs]
        rw [hget_deads, hget_hput, hget_hput, hget_deads]
        by_cases e : id0 = j
        · subst e
          rw [if_neg hid]; simp
        · simp [e]
      · obtain ⟨cap, rest, g1, g2, g3, g4⟩ := app_grow ok hT he (ty := ty) (base := none) (len := 0) (c := 0) (olds := []) ha.src (run_firstCells_none _ _ _ _ _) (by simp) (by omega) (by simpa using hlim) (by have := LIM_max tt e hlim; omega)
        simp only [List.nil_append, Nat.zero_add] at g1 g3 g4
        refine new_row (w1 := w.drew) (cap := cap) hk hh hf ((Keeps.refl _ w).drew) rfl (cells := (news ++ rest).toArray) (bs := bs) (by simpa using ha.ow.more (ds := rest) (by rw [ha.src.newsLen]; exact Nat.le_refl _)) ha.nd ha.own g1 g2 (by rw [List.size_toArray, g3]; exact Nat.le_refl _) hid g4
    · cases h
  · rename_i id gen
    split at h
    · rename_i e' t' g m ex xs hlk
      split at h
      · rename_i e1
        obtain ⟨rfl, rfl⟩ := e1
        split at h
        · rename_i hg
          subst hg
          split at h
          · cases h
          · rename_i hid
            split at h
            · rename_i hlim
              simp only [castL, Option.some.injEq, Prod.mk.injEq] at h
              obtain ⟨rfl, rfl⟩ := h
              obtain ⟨p, p1, p2⟩ := hc
              have hlk' := hl.of hlk (by simp)
              have hp := row_place hh p1 hlk' rfl
              have := part_does (ty := ty) ok hF hk hh hT he hlk' p1 (off := 0) (len := p.len) (by omega) p2 ha (by rw [nmem_iff] at hid; exact hid) (by rw [hp.2.1]; exact hlim) (by have := LIM_max tt _ hlim; rw [hp.2.1]; exact this) (ex' := none) (Nat.zero_le _)
              rw [hp.2.1] at this
              simpa using this
            · cases h
        · cases h
      · cases h
    · cases h
  · rename_i id gen off len
    split at h
    · rename_i e' t' g m ex xs hlk
      split at h
      · rename_i e1
        obtain ⟨rfl, rfl⟩ := e1
        split at h
        · rename_i hg
          subst hg
          split at h
          · cases h
          · rename_i hid
            split at h
            · rename_i hlim
              simp only [castL, Option.some.injEq, Prod.mk.injEq] at h
              obtain ⟨rfl, rfl⟩ := h
              obtain ⟨p, p1, p3, p2⟩ := hc
              have hlk' := hl.of hlk (by simp)
              exact part_does (ty := ty) ok hF hk hh hT he hlk' p1 p3 p2 ha (by rw [nmem_iff] at hid; exact hid) hlim (LIM_max tt _ hlim) (Nat.le_refl _)
            · cases h
        · cases h
      · cases h
    · cases h
  · cases h

theorem clear_does {tt : TT} (ok : TTok P tt) (hk : Keeps S.O S.w0 w) (hh : Hs S G own H w) (hl : LookOk look H) {T e : TypeId} {t0 t : Ty} (hT : tt.elem T = some e) (he : tt.shape e = some t0) {id gen off len m : Nat} {e1 : TypeId} {ex : Option Nat} {le : Option (Nat × Nat)} {xs : List t.D}
    (hlk : look id = .row e1 t gen m ex le xs) (hz : t0.sz = t.sz) (hoff : xs.length ≤ off) {ty : TypeId} {u : Value} (hc : VC S G (.tail id gen off len) u) : Does P S G H (Builtin.clear_ #[T] ty #[u]) w (.tup []) [] := by
  obtain ⟨i, z, k1, k2, k3, k4, k5⟩ := ok.shape _ _ he
  have hlk' := hl.of hlk (by simp)
  obtain ⟨p, hp, hs⟩ := hc
  have hob := hh.obj id
  rw [hlk'] at hob
  obtain ⟨a1, a2, a3, q, h4, h5, h6, hr, h7⟩ := hob
  rw [hp] at h4
  obtain rfl : p = q := by simpa using h4
  unfold SlOf at hs
  have same : ∀ {u : Value}, (Builtin.clear_ #[T] ty #[u]).run P w = .ok (.tuple #[]) w → Does P S G H (Builtin.clear_ #[T] ty #[u]) w (.tup []) [] := fun h => ⟨_, w, G, own, h, Le.refl G, ⟨[], rfl, trivial⟩, hk, hh⟩
  have hun := run_underlying (ok.elem _ _ hT) w
  cases hblk : p.blk with
  | none =>
    rw [hblk] at hs
    obtain ⟨rfl, _⟩ := hs
    exact same (by simp [Builtin.clear_, hun])
  | some b =>
    rw [hblk] at hs h7
    obtain ⟨o, c, rfl, g1, g2, g3, g4⟩ := hs
    obtain ⟨cur, bs, l1, l2, l3, l4, l5, l6, l7⟩ := h7
    by_cases h0 : len = 0
    · subst h0
      exact same (by simp [Builtin.clear_, hun])
    · have ho := g4 (by omega)
      have hzs : z.cells.size = t.sz := by rw [k5, ← hz]; simp [zeroVs_len]
      have hlen : (Builtin.zeroCells z.cells len).toList.length = len * t.sz := by rw [Array.length_toList, size_zeroCells, hzs]
      have hcl : len * t.sz ≤ c * t.sz := Nat.mul_le_mul_right _ g1
      rw [h5] at g3 ho
      have hfit : o + (Builtin.zeroCells z.cells len).toList.length ≤ cur.size := by rw [hlen, l2]; omega
      have hone : ∀ u ∈ (Builtin.zeroCells z.cells len).toList, u.oneCell' = true := by
        intro u hu
        have hzv : ∀ (t : Ty) (u : Value), u ∈ zeroVs t → u.oneCell' = true := by
          intro t
          induction t with
          | pair a b iha ihb => intro u hu; rcases List.mem_append.1 hu with h | h; exact iha u h; exact ihb u h
          | st t ih => exact ih
          | unit => intro u hu; simp [zeroVs] at hu
          | _ => intro u hu; simp [zeroVs] at hu; subst hu; rfl
        simp only [Builtin.zeroCells, Array.toList_map, List.mem_map] at hu
        obtain ⟨k, hk1, rfl⟩ := hu
        have hlt : k % z.cells.size < z.cells.size := by
          refine Nat.mod_lt _ ?_
          simp at hk1
          rcases Nat.eq_zero_or_pos z.cells.size with h | h
          · rw [h] at hk1; simp at hk1
          · exact h
        rw [getElem!_pos z.cells _ hlt]
        refine hzv t0 _ ?_
        have hm : ∀ v ∈ z.cells, v ∈ zeroVs t0 := by rw [k5]; simp
        exact hm _ (Array.getElem_mem hlt)
      have hS := run_storeCells_at (P := P) b o e1 (Builtin.zeroCells z.cells len).toList 0 cur w l1 (by simpa using hfit) hone
      simp only [Nat.add_zero] at hS
      have hsz := seg_size cur o _ hfit
      have hkw := keeps_setRow l1 hsz
      have hown := l6 b (by simp)
      have hnd := List.nodup_cons.1 l5
      have hlow : ∀ k, k < xs.length * t.sz → ((cur.toList.take o ++ (Builtin.zeroCells z.cells len).toList ++ cur.toList.drop (o + (Builtin.zeroCells z.cells len).toList.length)).drop p.base)[k]? = (cur.toList.drop p.base)[k]? := by
        intro k hk
        have h8 : xs.length * t.sz ≤ off * t.sz := Nat.mul_le_mul_right _ hoff
        rw [List.getElem?_drop, List.getElem?_drop, List.append_assoc, List.getElem?_append_left (by rw [List.length_take, Array.length_toList]; omega), List.getElem?_take, if_pos (by omega)]
      refine ⟨.tuple #[], w.setRow b (cur.toList.take o ++ (Builtin.zeroCells z.cells len).toList ++ cur.toList.drop (o + (Builtin.zeroCells z.cells len).toList.length)).toArray, G, own, ?_, Le.refl G, ⟨[], rfl, trivial⟩, hk.step hkw fun x hx => by subst hx; exact (hh.own _ _ hown).2, ?_⟩
      · have hne : ∀ l : Nat, len = l + 1 → True := fun _ _ => trivial
        obtain ⟨l, rfl⟩ : ∃ l, len = l + 1 := ⟨len - 1, by omega⟩
        simp [Builtin.clear_, hun, zeroValue, typeInfo, k1, k4, hS]
      · refine (hh.upd id (.row e1 t gen m ex le xs) (Le.refl G) (fun _ _ => Same.refl ..) (fun x j hx hj => hkw.block x (hh.own x j hx).1 fun e => hj ?_) (fun _ _ hx _ => hx) ⟨a1, a2, a3, p, hp, h5, h6, hr, ?_⟩ (fun x j hx => ⟨by have := (hh.own x j hx).1; have := hkw.size; omega, (hh.own x j hx).2⟩)).congr fun j => ?_
        · rw [e, hown] at hx
          simpa using hx.symm
        · rw [hblk]
          refine ⟨_, bs, setRow_heap w b cur _ e1 (0, 0) l1, hsz.trans l2, l3, ?_, l5, l6, fun j x o' e' t' ys hj he' => ?_⟩
          · refine (l4.stay fun x hx => hkw.block x (hh.own x id (l6 x (by simp [hx]))).1 fun e => hnd.1 (e ▸ hx)).congr ?_
            apply List.ext_getElem?
            intro k
            rw [List.getElem?_take, List.getElem?_take]
            split
            · rename_i hk
              exact (hlow k hk).symm
            · rfl
          · obtain ⟨v, v1, v2⟩ := l7 j x o' e' t' ys hj he'
            refine ⟨v, ?_, v2⟩
            have hjlt : j < xs.length := (List.getElem?_eq_some_iff.1 hj).1
            have hot : o' < t.sz := by
              obtain ⟨bz, _, hz⟩ := l4.get j x hj
              have b1 := enth_lt _ _ he'
              have b2 := hz.el.len
              have b3 := hz.len
              omega
            have : (j + 1) * t.sz ≤ xs.length * t.sz := Nat.mul_le_mul_right _ hjlt
            rw [Nat.add_mul] at this
            rw [← v1]
            exact hlow _ (by omega)
        · simp only [hputs, hget_hput]
          split
          · rename_i e; rw [← e, hlk']
          · rfl
end
end Go.Proofs.Ytgnnljpdcafdkaa.Ev

/- clear of a part of a row. -/
namespace Go.Proofs.Ytgnnljpdcafdkaa.Ev
open Go

theorem OwE.split {α : Type} {Q : α → List Value → List Nat → Prop} {sz : Nat} : ∀ (k : Nat) {xs : List α} {cs : List Value} {bs : List Nat}, OwE Q sz xs cs bs → ∃ b1 b2, bs = b1 ++ b2 ∧ OwE Q sz (xs.take k) cs b1 ∧ OwE Q sz (xs.drop k) (cs.drop (k * sz)) b2
  | 0, xs, cs, bs, h => ⟨[], bs, rfl, by simp; rfl, by simpa using h⟩
  | k + 1, [], cs, bs, h => ⟨[], [], by rw [show bs = [] from h]; rfl, rfl, rfl⟩
  | k + 1, x :: r, cs, bs, ⟨b1, b2, hb, h1, h2⟩ => by
    obtain ⟨c1, c2, e, k1, k2⟩ := OwE.split k h2
    refine ⟨b1 ++ c1, c2, by rw [hb, e]; simp, ⟨b1, c1, rfl, h1, k1⟩, ?_⟩
    rw [List.drop_drop] at k2
    rw [show (k + 1) * sz = sz + k * sz by rw [Nat.add_mul]; omega]
    exact k2

section
variable {P : Program} {S : Sta} {G : Gh} {w : World} {own : Nat → Option Nat} {H : List Obj} {look : Nat → Obj}

theorem zcells_ow {Fr : Frn} {t : Ty} (hz : zok t = true) {z : Value} (hzc : z.cells = (zeroVs t).toArray) (n : Nat) : OwE (OwT Fr w t) t.sz (List.replicate n t.dflt) (Builtin.zeroCells z.cells n).toList [] := by
  have : (Builtin.zeroCells z.cells n).toList = (madeCells (zeroVs t).toArray (n * t.sz)).toList := by
    have hs : z.cells.size = t.sz := by rw [hzc]; simp [zeroVs_len]
    unfold Builtin.zeroCells madeCells
    rw [hs, hzc]
    simp [zeroVs_len]
  rw [this]
  exact zrow_ow hz n
theorem zeroVs_one : ∀ (t : Ty) (u : Value), u ∈ zeroVs t → u.oneCell' = true := by
  intro t
  induction t with
  | pair a b iha ihb => intro u hu; rcases List.mem_append.1 hu with h | h; exact iha u h; exact ihb u h
  | st t ih => exact ih
  | unit => intro u hu; simp [zeroVs] at hu
  | _ => intro u hu; simp [zeroVs] at hu; subst hu; rfl
theorem zcells_one {t : Ty} {z : Value} (hzc : z.cells = (zeroVs t).toArray) (n : Nat) : ∀ u ∈ (Builtin.zeroCells z.cells n).toList, u.oneCell' = true := by
  intro u hu
  simp only [Builtin.zeroCells, Array.toList_map, List.mem_map] at hu
  obtain ⟨k, hk1, rfl⟩ := hu
  have hlt : k % z.cells.size < z.cells.size := by
    refine Nat.mod_lt _ ?_
    simp at hk1
    rcases Nat.eq_zero_or_pos z.cells.size with h | h
    · rw [h] at hk1; simp at hk1
    · exact h
  rw [getElem!_pos z.cells _ hlt]
  have hm : ∀ v ∈ z.cells, v ∈ zeroVs t := by rw [hzc]; simp
  exact zeroVs_one t _ (hm _ (Array.getElem_mem hlt))

theorem clear_part {tt : TT} (ok : TTok P tt) (hk : Keeps S.O S.w0 w) (hh : Hs S G own H w) (hl : LookOk look H) {T e : TypeId} {t : Ty} (hT : tt.elem T = some e) (he : tt.shape e = some t) (hz : zok t = true) {id gen off len m : Nat} {ex : Option Nat} {xs : List t.D}
    (hlk : look id = .row e t gen m ex none xs) {ty : TypeId} {u : Value} (hc : VC S G (.part id gen off len) u) : Does P S G H (Builtin.clear_ #[T] ty #[u]) w (.tup []) [(id, .row e t gen (m + 1) ex none (xs.take off ++ (List.replicate len t.dflt ++ xs.drop (off + len))))] := by
  obtain ⟨i, z, k1, k2, k3, k4, k5⟩ := ok.shape _ _ he
  have hlk' := hl.of hlk (by simp)
  obtain ⟨p, hp, hlen, hs, _⟩ := hc
  have hob := hh.obj id
  rw [hlk'] at hob
  obtain ⟨_, hφ, hν, q, h4, h5, h6, hr, h7⟩ := hob
  rw [hp] at h4
  obtain rfl : p = q := by simpa using h4
  have hlt : ∀ b j, own b = some j → b < w.heap.size := fun b j h => (hh.own b j h).1
  have hun := run_underlying (ok.elem _ _ hT) w
  have hnl : (xs.take off ++ (List.replicate len t.dflt ++ xs.drop (off + len))).length = xs.length := by simp; omega
  unfold SlOf at hs
  -- nothing is written
  have same : ∀ {u : Value}, len = 0 → (Builtin.clear_ #[T] ty #[u]).run P w = .ok (.tuple #[]) w → Does P S G H (Builtin.clear_ #[T] ty #[u]) w (.tup []) [(id, .row e t gen (m + 1) ex none (xs.take off ++ (List.replicate len t.dflt ++ xs.drop (off + len))))] := by
    intro u h0 hrun
    subst h0
    have e0 : xs.take off ++ (List.replicate 0 t.dflt ++ xs.drop (off + 0)) = xs := by simp
    rw [e0]
    obtain ⟨G', l, _, _, hh'⟩ := put_row (w' := w) (own' := own) (id := id) (g := gen) (m := m + 1) (p := p) (e := e) (t := t) (ex := ex) (xs := xs) hh (.inr hp) hφ (fun g' m' hg i o => hν g' m' (by omega) i o) h5 h6 hr (fun _ _ _ _ => rfl) (fun _ _ h _ => h) hh.own (by
      cases hblk : p.blk with
      | none => rw [hblk] at h7; exact h7
      | some b =>
        rw [hblk] at h7
        obtain ⟨cur, bs, l1, l2, l3, l4, l5, l6, _⟩ := h7
        exact ⟨cur, bs, l1, l2, l3, l4, l5, l6⟩)
    exact ⟨_, w, G', own, hrun, l, ⟨[], rfl, trivial⟩, hk, hh'⟩
  cases hblk : p.blk with
  | none =>
    rw [hblk] at hs
    obtain ⟨rfl, h0⟩ := hs
    exact same h0 (by simp [Builtin.clear_, hun])
  | some b =>
    rw [hblk] at hs h7
    obtain ⟨o, c, rfl, g1, g2, g3, g4⟩ := hs
    obtain ⟨cur, bs, l1, l2, l3, l4, l5, l6, l7⟩ := h7
    by_cases h0 : len = 0
    · exact same h0 (by subst h0; simp [Builtin.clear_, hun])
    · have ho := g4 (by omega)
      have hzl : (Builtin.zeroCells z.cells len).toList.length = len * t.sz := by rw [Array.length_toList, size_zeroCells, k5]; simp [zeroVs_len]
      have hcl : len * t.sz ≤ c * t.sz := Nat.mul_le_mul_right _ g1
      rw [h5] at g3 ho
      have hfit : o + (Builtin.zeroCells z.cells len).toList.length ≤ cur.size := by rw [hzl, l2]; omega
      have hS := run_storeCells_at (P := P) b o e (Builtin.zeroCells z.cells len).toList 0 cur w l1 (by simpa using hfit) (zcells_one k5 len)
      simp only [Nat.add_zero] at hS
      have hsz := seg_size cur o _ hfit
      have hkw := keeps_setRow l1 hsz
      have hown := l6 b (by simp)
      have hnd := List.nodup_cons.1 l5
      obtain ⟨b1, b2, eb, m1, m2⟩ := l4.split off
      obtain ⟨b3, b4, eb2, m3, m4⟩ := m2.split len
      rw [List.drop_drop] at m4
      rw [List.drop_drop, ← Nat.add_mul] at m4
      have hsub : (b1 ++ b4).Sublist bs := by
        rw [eb, eb2]
        exact List.Sublist.append (List.Sublist.refl _) (List.sublist_append_right _ _)
      have hol : ∀ x ∈ b1 ++ b4, x < w.heap.size := fun x hx => hlt _ _ (l6 x (by simp [hsub.subset hx]))
      have hcut : ∀ x ∈ b1 ++ b4, x ≠ b := fun x hx e => hnd.1 (e ▸ hsub.subset hx)
      have hcu : cur.toList.length = cur.size := Array.length_toList
      have htot : (xs.length + ex.getD 0) * t.sz ≥ (off + len) * t.sz := Nat.mul_le_mul_right _ (by omega)
      have hoff : off * t.sz + len * t.sz = (off + len) * t.sz := by rw [Nat.add_mul]
      obtain ⟨G', l, _, _, hh'⟩ := put_row (w' := w.setRow b (cur.toList.take o ++ (Builtin.zeroCells z.cells len).toList ++ cur.toList.drop (o + (Builtin.zeroCells z.cells len).toList.length)).toArray) (own' := own) (id := id) (g := gen) (m := m + 1) (p := p) (e := e) (t := t) (ex := ex)
        (xs := xs.take off ++ (List.replicate len t.dflt ++ xs.drop (off + len))) hh (.inr hp) hφ (fun g' m' hg i o => hν g' m' (by omega) i o) h5 (by rw [hnl]; exact h6) (by rw [hnl]; exact hr)
        (fun x j hx hj => hkw.block x (hlt x j hx) fun e => hj (by rw [e, hown] at hx; simpa using hx.symm)) (fun _ _ h _ => h) (fun x j hx => ⟨Nat.lt_of_lt_of_le (hlt x j hx) hkw.size, (hh.own x j hx).2⟩) (by
        rw [hblk]
        refine ⟨_, b1 ++ b4, setRow_heap w b cur _ e (0, 0) l1, hsz.trans l2, by rw [hnl]; exact l3, ?_, List.nodup_cons.2 ⟨fun h => hcut b h rfl, List.Nodup.sublist hsub hnd.2⟩, fun x hx => l6 x ?_⟩
        · have hA : OwE (OwT S.Fr w t) t.sz (xs.take off) ((cur.toList.drop p.base).take (off * t.sz)) b1 := by
            have := m1.cut
            rwa [show (xs.take off).length = off by simp; omega] at this
          have hall := hA.append (by rw [List.length_take, List.length_take, List.length_drop, hcu, l2]; rw [show min off xs.length = off by omega]; omega) ((zcells_ow (w := w) (Fr := S.Fr) hz k5 len).append (by rw [hzl]; simp) m4)
          have hst := hall.stay (w' := w.setRow b (cur.toList.take o ++ (Builtin.zeroCells z.cells len).toList ++ cur.toList.drop (o + (Builtin.zeroCells z.cells len).toList.length)).toArray) fun x hx => by
            have hx' : x ∈ b1 ++ b4 := by simpa using hx
            exact hkw.block x (hol x hx') (hcut x hx')
          have hseg := seg_drop cur.toList (Builtin.zeroCells z.cells len).toList p.base (off * t.sz) (by rw [hcu, l2]; omega)
          rw [← ho] at hseg
          simp only
          generalize w.setRow b (cur.toList.take o ++ (Builtin.zeroCells z.cells len).toList ++ cur.toList.drop (o + (Builtin.zeroCells z.cells len).toList.length)).toArray = w2 at hst ⊢
          rw [hseg, hzl, show p.base = o - off * t.sz by omega]
          rw [show p.base = o - off * t.sz by omega] at hst
          rw [List.drop_drop, show o - off * t.sz + (off + len) * t.sz = o + len * t.sz by omega] at hst
          rw [List.append_assoc]
          exact hst
        · rcases List.mem_cons.1 hx with rfl | hx
          · simp
          · simp [hsub.subset hx])
      refine ⟨.tuple #[], _, G', own, ?_, l, ⟨[], rfl, trivial⟩, hk.step hkw fun x hx => by subst hx; exact (hh.own _ _ hown).2, hh'⟩
      obtain ⟨l, rfl⟩ : ∃ l, len = l + 1 := ⟨len - 1, by omega⟩
      simp [Builtin.clear_, hun, zeroValue, typeInfo, k1, k4, hS]
end
end Go.Proofs.Ytgnnljpdcafdkaa.Ev

/- The contract of a call, and how arguments are handed over. -/
namespace Go.Proofs.Ytgnnljpdcafdkaa.Ev
open Go

/-- the cells of one value -/
def ValC (t : Ty) (u : Value) (cs : List Value) : Prop := match t.isAgg with
  | true => u = .agg cs.toArray
  | false => cs = [u]

/-- what is read behind a pointer -/
def PtrR (Fr : Frn) (ok : Nat → Prop) (w : World) (t : Ty) (x : t.D) (u : Value) : Prop :=
  ∃ (ad : Addr) (cs : List Value), ok ad.block ∧ cs.length = t.sz ∧ RdC Fr ok w t x cs ∧ (∀ (i : Nat) v, cs[i]? = some v → w.cell? (ad.add i) = some v) ∧ u = .pointer (some ad)

/-- one argument: what is read, the blocks that are handed over, the cells that are given back -/
def ArgV (Fr : Frn) (ok : Nat → Prop) (w : World) : (p : PK) → p.D → Value → List Nat → List (List Value) → Prop
  | .val t, x, u, bs, bk => bs = [] ∧ bk = [] ∧ ∃ cs, ValC t u cs ∧ RdC Fr ok w t x cs
  | .own t, x, u, bs, bk => bk = [] ∧ ∃ cs, ValC t u cs ∧ OwT Fr w t x cs bs
  | .inout t, x, u, bs, bk => ∃ cs, bk = [cs] ∧ ValC t u cs ∧ OwT Fr w t x cs bs
  | .rptr t, x, u, bs, bk => bs = [] ∧ bk = [] ∧ PtrR Fr ok w t x u
  | .fn t, x, u, bs, bk => bs = [] ∧ bk = [] ∧ ((t = .unit ∧ u = .func (.func x.1) #[] #[]) ∨ (t ≠ .unit ∧ ∃ pv, u = .func (.func x.1) #[] #[pv] ∧ PtrR Fr ok w t x.2 pv))

def ArgsV (Fr : Frn) (ok : Nat → Prop) (w : World) : (ps : List PK) → Ins ps → List Value → List Nat → List (List Value) → Prop
  | [], _, us, bs, bk => us = [] ∧ bs = [] ∧ bk = []
  | [p], x, us, bs, bk => ∃ u, us = [u] ∧ ArgV Fr ok w p x u bs bk
  | p :: q :: r, x, us, bs, bk => ∃ u us' b1 b2 k1 k2, us = u :: us' ∧ bs = b1 ++ b2 ∧ bk = k1 ++ k2 ∧ ArgV Fr ok w p x.1 u b1 k1 ∧ ArgsV Fr ok w (q :: r) x.2 us' b2 k2

/-- the results, the blocks behind them -/
def ResV (Fr : Frn) (w : World) : (ts : List Ty) → Prods ts → List Value → List Nat → Prop
  | [], _, us, bs => us = [] ∧ bs = []
  | [t], x, us, bs => ∃ u cs, us = [u] ∧ ValC t u cs ∧ OwT Fr w t x cs bs
  | t :: s :: r, x, us, bs => ∃ u cs us' b1 b2, us = u :: us' ∧ bs = b1 ++ b2 ∧ ValC t u cs ∧ OwT Fr w t x.1 cs b1 ∧ ResV Fr w (s :: r) x.2 us' b2

/-- what is given back -/
def GivV (Fr : Frn) (w : World) : (ts : List Ty) → Prods ts → List (List Value) → List Nat → Prop
  | [], _, bk, bs => bk = [] ∧ bs = []
  | [t], x, bk, bs => ∃ cs, bk = [cs] ∧ OwT Fr w t x cs bs
  | t :: s :: r, x, bk, bs => ∃ cs bk' b1 b2, bk = cs :: bk' ∧ bs = b1 ++ b2 ∧ OwT Fr w t x.1 cs b1 ∧ GivV Fr w (s :: r) x.2 bk' b2

def retOf : List Value → Value
  | [u] => u
  | us => .tuple us.toArray

def okB (w : World) (bs : List Nat) (b : Nat) : Prop := b < w.heap.size ∧ b ∉ bs

def FrAt (Fr : Frn) (ok : Nat → Prop) (w : World) : Prop := ∀ e t xs u, Fr e t xs u → RdS1 ok w (RdC Fr ok w t) t.sz xs u

def Callable (P : Program) (f : FuncId) : Prop := ∃ fn, P.funcs[f]? = some fn ∧ (fn.name == "runtime.NumGoroutine") = false ∧ fn.body.isNone = false

/-- a function's contract at one input -/
def CallOk (P : Program) (sg : Sig) (f : FuncId) (x : Ins sg.ps) (out : sg.Out) : Prop :=
  Callable P f ∧ ∀ (w : World) (Fr : Frn) (us : List Value) (bs : List Nat) (bk : List (List Value)), FrAt Fr (okB w bs) w → ArgsV Fr (okB w bs) w sg.ps x us bs bk → bs.Nodup →
    Calls P f us.toArray w fun e w' => ∃ (vs : List Value) (r1 r2 : List Nat), e = .returned (retOf vs) ∧ Keeps (· ∈ bs) w w' ∧ ResV Fr w' sg.rs (outR sg.rs (gives sg.ps) out) vs r1 ∧ GivV Fr w' (gives sg.ps) (outG sg.rs (gives sg.ps) out) bk r2 ∧
      (r1 ++ r2).Nodup ∧ ∀ b ∈ r1 ++ r2, b ∈ bs ∨ w.heap.size ≤ b

/-! ### Arguments taken -/
theorem PtrR.mono {Fr : Frn} {ok ok' : Nat → Prop} {w : World} (h1 : ∀ b, ok b → ok' b) {t : Ty} {x : t.D} {u : Value} (h : PtrR Fr ok w t x u) : PtrR Fr ok' w t x u := by
  obtain ⟨ad, cs, k1, k2, k3, k4, k5⟩ := h
  exact ⟨ad, cs, h1 _ k1, k2, k3.mono h1 fun _ _ => rfl, k4, k5⟩
theorem ArgV.mono {Fr : Frn} {ok ok' : Nat → Prop} {w : World} (h1 : ∀ b, ok b → ok' b) {p : PK} {x : p.D} {u : Value} {bs : List Nat} {bk : List (List Value)} (h : ArgV Fr ok w p x u bs bk) : ArgV Fr ok' w p x u bs bk := by
  cases p with
  | val t => obtain ⟨e1, e2, cs, k1, k2⟩ := h; exact ⟨e1, e2, cs, k1, k2.mono h1 fun _ _ => rfl⟩
  | own t => exact h
  | inout t => exact h
  | rptr t => obtain ⟨e1, e2, k⟩ := h; exact ⟨e1, e2, k.mono h1⟩
  | fn t =>
    obtain ⟨e1, e2, k⟩ := h
    refine ⟨e1, e2, ?_⟩
    rcases k with k | ⟨k1, pv, k2, k3⟩
    · exact .inl k
    · exact .inr ⟨k1, pv, k2, k3.mono h1⟩
theorem ArgsV.mono {Fr : Frn} {ok ok' : Nat → Prop} {w : World} (h1 : ∀ b, ok b → ok' b) : ∀ {ps : List PK} {x : Ins ps} {us : List Value} {bs : List Nat} {bk : List (List Value)}, ArgsV Fr ok w ps x us bs bk → ArgsV Fr ok' w ps x us bs bk
  | [], _, _, _, _, h => h
  | [p], x, _, _, _, ⟨u, e, k⟩ => ⟨u, e, k.mono h1⟩
  | p :: q :: r, x, _, _, _, ⟨u, us', b1, b2, k1, k2, e1, e2, e3, k3, k4⟩ => ⟨u, us', b1, b2, k1, k2, e1, e2, e3, k3.mono h1, ArgsV.mono h1 k4⟩

section
variable {P : Program} {S : Sta} {G : Gh} {w : World} {own : Nat → Option Nat} {H : List Obj} {look : Nat → Obj}

/-- what may be read beside what is handed over -/
def okI (w : World) (own : Nat → Option Nat) (ids : List Nat) (b : Nat) : Prop := b < w.heap.size ∧ ∀ i ∈ ids, own b ≠ some i

theorem ok_okI (hk : Keeps S.O S.w0 w) (hh : Hs S G own H w) {ids : List Nat} {b : Nat} (h : S.ok b) : okI w own ids b :=
  ⟨Nat.lt_of_lt_of_le h.1 hk.size, fun i _ e => by
    rcases (hh.own b i e).2 with k | k
    · exact h.2 k
    · have := h.1; omega⟩

theorem va_val {t : Ty} {ag : Bool} {cs : List Cv} {u : Value} (hag : ag = t.isAgg) (h : VA S G ag cs u) : ∃ us, ValC t u us ∧ VL S G cs us := by
  subst hag
  unfold ValC
  unfold VA at h
  split at h
  · obtain ⟨us, e, k⟩ := h; rename_i e'; rw [e']; exact ⟨us, e, k⟩
  · rename_i e'; rw [e']; exact ⟨[u], rfl, h⟩

theorem VL_whole {cs : List Cv} {us : List Value} (h : VL S G cs us) : ∀ {c1 r : List Cv} {u1 u2 : List Value}, cs = c1 ++ r → us = u1 ++ u2 → VL S G r u2 → r = [] → us = u1 := by
  intro c1 r u1 u2 _ h2 h3 h4
  subst h4
  rw [h2, VL_nil h3, List.append_nil]

/-- the cells that are given back, one argument's -/
def Backs (S : Sta) (G : Gh) : List (List Cv) → List (List Value) → Prop
  | [], [] => True
  | c :: r, u :: us => VL S G c u ∧ Backs S G r us
  | _, _ => False
theorem Backs.append : ∀ {a b : List (List Cv)} {u v : List (List Value)}, Backs S G a u → Backs S G b v → Backs S G (a ++ b) (u ++ v)
  | [], _, [], _, _, h => h
  | _ :: _, _, _ :: _, _, ⟨h1, h2⟩, h => ⟨h1, Backs.append h2 h⟩
  | [], _, _ :: _, _, h, _ => h.elim
  | _ :: _, _, [], _, h, _ => h.elim

theorem eptr_ptr (hk : Keeps S.O S.w0 w) (hh : Hs S G own H w) {ids : List Nat} {t : Ty} {x : t.D} {u : Value} (h : EptrOf S t x 0 u) : PtrR S.Fr (okI w own ids) w t x u := by
  obtain ⟨ad, cs, k1, k2, k3, k4, k5⟩ := h
  refine ⟨ad, cs, ok_okI hk hh k1, k2, k3.mono (fun b hb => ok_okI hk hh hb) fun b hb => hk.block b hb.1 hb.2, fun i v hv => ?_, by rw [k5]; simp [Addr.add]⟩
  rw [← k4 i v hv]
  exact cell_keep hk (by rw [add_block]; exact k1)

theorem box_ptr (hF : S.FrOk) (hk : Keeps S.O S.w0 w) (hh : Hs S G own H w) (hl : LookOk look H) {ids : List Nat} {id : Nat} {T : TypeId} {cs : List Cv} {t : Ty} {x : t.D} (hlk : look id = .box T cs) (hr : rdC look t cs = some (x, [])) (hid : id ∉ ids) (hrd : ∀ i ∈ crefs cs, i ∉ ids) {u : Value} (hu : PtrOf (G.φ id 0) 0 0 u) :
    PtrR S.Fr (okI w own ids) w t x u := by
  have hob := hh.obj id
  rw [hl.of hlk (by simp)] at hob
  obtain ⟨p, b, cur, h1, h2, h3, h4, h5, h6, h7, h8⟩ := hob
  obtain ⟨q, b', k1, k2, k3, k4⟩ := hu
  rw [h1] at k1
  obtain rfl : p = q := by simpa using k1
  rw [h2] at k2
  obtain rfl : b = b' := by simpa using k2
  obtain ⟨c1, u1, u2, e1, e2, m1, m2⟩ := rdC_rd (ok := okI w own ids) hF hk hh hl (fun b hb => ok_okI hk hh hb) hr h7 (fun i hi b hb => ⟨(hh.own b i hb).1, fun j hj e => by rw [hb] at e; simp at e; subst e; exact hrd i hi hj⟩)
  rw [VL_nil m2, List.append_nil] at e2
  refine ⟨⟨b, 0, none⟩, u1, ⟨(hh.own b id h8).1, fun j hj e => by rw [h8] at e; simp at e; subst e; exact hid hj⟩, m1.len, m1, fun i v hv => ?_, by rw [k4, h3]; simp⟩
  rw [add_none, cell_of h6, e2]
  simpa using hv

theorem takeArg_arg (hF : S.FrOk) (hk : Keeps S.O S.w0 w) (hh : Hs S G own H w) (hl : LookOk look H) {ids : List Nat} : ∀ {p : PK} {v : LV} {u : Value} {a : Took p.D}, takeArg look p v = some a → VV S G v u → (∀ i ∈ a.rd, i ∉ ids) → a.own.Nodup →
    ∃ bs bk, ArgV S.Fr (okI w own ids) w p a.x u bs bk ∧ bs.Nodup ∧ (∀ b ∈ bs, ∃ i ∈ a.own, own b = some i) ∧ Backs S G a.back bk
  | .val t, v, u, a, h, hv, hrd, _ => by
    simp only [takeArg] at h
    unfold tkVal at h
    split at h
    · rename_i ag cs
      split at h
      · rename_i hag
        split at h
        · rename_i x hr
          simp at h; subst h
          obtain ⟨us, k1, k2⟩ := va_val hag hv
          obtain ⟨c1, u1, u2, e1, e2, m1, m2⟩ := rdC_rd (ok := okI w own ids) hF hk hh hl (fun b hb => ok_okI hk hh hb) hr k2 (fun i hi b hb => ⟨(hh.own b i hb).1, fun j hj e => by rw [hb] at e; simp at e; subst e; exact hrd i hi hj⟩)
          rw [VL_nil m2, List.append_nil] at e2
          subst e2
          exact ⟨[], [], ⟨rfl, rfl, us, k1, m1⟩, List.nodup_nil, fun b hb => by simp at hb, trivial⟩
        · cases h
      · cases h
    · cases h
  | .own t, v, u, a, h, hv, hrd, hn => by
    simp only [takeArg] at h
    unfold tkOwn at h
    split at h
    · rename_i ag cs
      split at h
      · rename_i hag
        split at h
        · rename_i x is hr
          simp at h; subst h
          obtain ⟨us, k1, k2⟩ := va_val hag hv
          obtain ⟨c1, u1, u2, bs, e1, e2, m1, m2, m3, m4⟩ := tkC_ow hh hl hr k2 hn
          rw [VL_nil m2, List.append_nil] at e2
          subst e2
          exact ⟨bs, [], ⟨rfl, us, k1, m1⟩, m3, m4, trivial⟩
        · cases h
      · cases h
    · cases h
  | .inout t, v, u, a, h, hv, hrd, hn => by
    simp only [takeArg] at h
    unfold tkIo at h
    split at h
    · rename_i ag cs
      split at h
      · rename_i hag
        split at h
        · rename_i x is hr
          simp at h; subst h
          obtain ⟨us, k1, k2⟩ := va_val hag hv
          obtain ⟨c1, u1, u2, bs, e1, e2, m1, m2, m3, m4⟩ := tkC_ow hh hl (ioC_tk hr) k2 hn
          rw [VL_nil m2, List.append_nil] at e2
          subst e2
          exact ⟨bs, [us], ⟨us, rfl, k1, m1⟩, m3, m4, k2, trivial⟩
        · cases h
      · cases h
    · cases h
  | .rptr t, v, u, a, h, hv, hrd, _ => by
    simp only [takeArg] at h
    unfold tkRp at h
    split at h
    · rename_i id gen idx off
      split at h
      · rename_i id' r hc
        have e := chPtr_some hc
        simp at e
        obtain ⟨⟨rfl, rfl, rfl, rfl⟩, rfl⟩ := e
        split at h
        · rename_i T cs hlk
          split at h
          · rename_i x hr
            simp at h; subst h
            exact ⟨[], [], ⟨rfl, rfl, box_ptr hF hk hh hl hlk hr (hrd id (by simp)) (fun i hi => hrd i (by simp [hi])) hv.1⟩, List.nodup_nil, fun b hb => by simp at hb, trivial⟩
          · cases h
        · cases h
      · cases h
    · rename_i t' x off
      split at h
      · rename_i e
        subst e
        split at h
        · rename_i e
          subst e
          simp at h; subst h
          exact ⟨[], [], ⟨rfl, rfl, eptr_ptr hk hh hv.1⟩, List.nodup_nil, fun b hb => by simp at hb, trivial⟩
        · cases h
      · cases h
    · cases h
  | .fn t, v, u, a, h, hv, hrd, _ => by
    simp only [takeArg] at h
    unfold tkFn at h
    split at h
    · rename_i g is
      obtain ⟨vs, e1, k1⟩ := hv.1
      split at h
      · split at h
        · rename_i e
          subst e
          simp at h; subst h
          have hvs : vs = [] := by
            cases vs with
            | nil => rfl
            | cons _ _ => exact k1.elim
          subst hvs
          exact ⟨[], [], ⟨rfl, rfl, .inl ⟨rfl, e1⟩⟩, List.nodup_nil, fun b hb => by simp at hb, trivial⟩
        · cases h
      · rename_i i
        split at h
        · cases h
        · rename_i hun
          split at h
          · rename_i T cs hlk
            split at h
            · rename_i x hr
              simp at h; subst h
              match vs, k1 with
              | [pv], k1 =>
                refine ⟨[], [], ⟨rfl, rfl, .inr ⟨fun e => hun (by rw [e]; rfl), pv, e1, box_ptr hF hk hh hl hlk hr (hrd i (by simp)) (fun j hj => hrd j (by simp [hj])) k1.1⟩⟩, List.nodup_nil, fun b hb => by simp at hb, trivial⟩
              | [], k1 => exact k1.elim
              | _ :: _ :: _, k1 => exact k1.2.elim
            · cases h
          · cases h
      · cases h
    · rename_i g t' x
      split at h
      · rename_i e
        subst e
        simp at h; subst h
        refine ⟨[], [], ⟨rfl, rfl, ?_⟩, List.nodup_nil, fun b hb => by simp at hb, trivial⟩
        rcases hv.1 with ⟨e1, e2⟩ | ⟨e1, pv, e2, e3⟩
        · exact .inl ⟨e1, e2⟩
        · exact .inr ⟨e1, pv, e2, eptr_ptr hk hh e3⟩
      · cases h
    · cases h

theorem takeArgs_args (hF : S.FrOk) (hk : Keeps S.O S.w0 w) (hh : Hs S G own H w) (hl : LookOk look H) {ids : List Nat} : ∀ {ps : List PK} {vs : List LV} {us : List Value} {a : Took (Ins ps)}, takeArgs look ps vs = some a → VF S G vs us → (∀ i ∈ a.rd, i ∉ ids) → a.own.Nodup →
    ∃ bs bk, ArgsV S.Fr (okI w own ids) w ps a.x us bs bk ∧ bs.Nodup ∧ (∀ b ∈ bs, ∃ i ∈ a.own, own b = some i) ∧ Backs S G a.back bk
  | [], vs, us, a, h, hv, _, _ => by
    match vs, us, hv with
    | [], [], _ =>
      simp [takeArgs] at h; subst h
      exact ⟨[], [], ⟨rfl, rfl, rfl⟩, List.nodup_nil, fun b hb => by simp at hb, trivial⟩
    | _ :: _, _, _ => simp [takeArgs] at h
    | [], _ :: _, hv => exact hv.elim
  | [p], vs, us, a, h, hv, hrd, hn => by
    match vs, us, hv with
    | [v], [u], hv =>
      simp only [takeArgs] at h
      obtain ⟨bs, bk, k1, k2, k3, k4⟩ := takeArg_arg hF hk hh hl h hv.1 hrd hn
      exact ⟨bs, bk, ⟨u, rfl, k1⟩, k2, k3, k4⟩
    | [], _, _ => simp [takeArgs] at h
    | _ :: _ :: _, _, _ => simp [takeArgs] at h
    | [_], [], hv => exact hv.elim
    | [_], _ :: _ :: _, hv => exact hv.2.elim
  | p :: q :: r, vs, us, a, h, hv, hrd, hn => by
    match vs, us, hv with
    | v :: vs', u :: us', ⟨hv1, hv2⟩ =>
      simp only [takeArgs] at h
      split at h
      · rename_i a1 h1
        split at h
        · rename_i a2 h2
          simp at h; subst h
          simp only [app_eq] at hrd hn
          have hn' := List.nodup_append.1 hn
          obtain ⟨b1, bk1, k1, k2, k3, k4⟩ := takeArg_arg hF hk hh hl h1 hv1 (fun i hi => hrd i (by simp [hi])) hn'.1
          obtain ⟨b2, bk2, m1, m2, m3, m4⟩ := takeArgs_args hF hk hh hl h2 hv2 (fun i hi => hrd i (by simp [hi])) hn'.2.1
          refine ⟨b1 ++ b2, bk1 ++ bk2, ⟨u, us', b1, b2, bk1, bk2, rfl, rfl, rfl, k1, m1⟩, List.nodup_append.2 ⟨k2, m2, fun x hx y hy e => ?_⟩, fun b hb => ?_, by simp only [app_eq]; exact k4.append m4⟩
          · subst e
            obtain ⟨i1, hi1, e1⟩ := k3 x hx
            obtain ⟨i2, hi2, e2⟩ := m3 x hy
            rw [e1] at e2
            simp at e2; subst e2
            exact hn'.2.2 i1 hi1 i1 hi2 rfl
          · simp only [app_eq]
            rcases List.mem_append.1 hb with hb | hb
            · obtain ⟨i1, hi1, e1⟩ := k3 b hb; exact ⟨i1, by simp [hi1], e1⟩
            · obtain ⟨i1, hi1, e1⟩ := m3 b hb; exact ⟨i1, by simp [hi1], e1⟩
        · cases h
      · cases h
    | [], _, _ => simp [takeArgs] at h
    | _ :: _, [], hv => exact hv.elim
end
end Go.Proofs.Ytgnnljpdcafdkaa.Ev

/- What comes back of a call: results opened, what is given back laid in place. -/
namespace Go.Proofs.Ytgnnljpdcafdkaa.Ev
open Go

theorem hputs_congr : ∀ (us : List (Nat × Obj)) {A B : List Obj}, (∀ j, hget A j = hget B j) → ∀ j, hget (hputs A us) j = hget (hputs B us) j
  | [], _, _, h, j => h j
  | (i, o) :: r, _, _, h, j => hputs_congr r (fun k => by rw [hget_hput, hget_hput, h k]) j
theorem hget_hputs_put : ∀ (us : List (Nat × Obj)) (H : List Obj) (i : Nat) (o : Obj) (j : Nat), (∀ p ∈ us, p.1 ≠ i) → hget (hputs (hput H i o) us) j = hget (hput (hputs H us) i o) j
  | [], _, _, _, _, _ => rfl
  | (k, o') :: r, H, i, o, j, h => by
    have hk : k ≠ i := h (k, o') (by simp)
    rw [hputs, hputs, ← hget_hputs_put r (hput H k o') i o j fun p hp => h p (by simp [hp])]
    refine hputs_congr r (fun n => ?_) j
    simp only [hget_hput]
    by_cases e1 : k = n
    · subst e1
      simp [Ne.symm hk]
    · simp [e1]

section
variable {P : Program} {S : Sta} {G : Gh} {w w' : World} {own own' : Nat → Option Nat} {H : List Obj} {look : Nat → Obj}

theorem valc_va {t : Ty} {u : Value} {us : List Value} {cs : List Cv} (h : ValC t u us) (hv : VL S G cs us) : VA S G t.isAgg cs u := by
  unfold ValC at h
  unfold VA
  split at h
  · rename_i e; rw [e]; exact ⟨us, h, hv⟩
  · rename_i e; rw [e]; subst h; exact hv

theorem opensR_open : ∀ {ts : List Ty} {x : Prods ts} {us : List Value} {bs : List Nat} {base : Nat} {G : Gh} {own : Nat → Option Nat} {H : List Obj}, ResV S.Fr w ts x us bs → Hs S G own H w → (∀ j, base ≤ j → j < base + nslP ts → hget H j = .free) → bs.Nodup →
    (∀ b ∈ bs, own b = none ∧ (S.O b ∨ S.w0.heap.size ≤ b)) → ∃ G' own', Le G G' ∧ (∀ j, j < base ∨ base + nslP ts ≤ j → Same G G' j) ∧ VT S G' (opensR ts x base).1 us ∧ Hs S G' own' (hputs H (opensR ts x base).2) w ∧
      (∀ b, b ∉ bs → own' b = own b) ∧ (∀ b j, own b = some j → own' b = some j)
  | [], x, us, bs, base, G, own, H, ho, hh, _, _, _ => by
    obtain ⟨rfl, rfl⟩ := ho
    exact ⟨G, own, Le.refl G, fun _ _ => Same.refl .., trivial, hh, fun _ _ => rfl, fun _ _ h => h⟩
  | [t], x, us, bs, base, G, own, H, ho, hh, hf, hn, hb => by
    obtain ⟨u, cs, rfl, h1, h2⟩ := ho
    obtain ⟨G', own', l, s, v, hh', o1, o2, o3⟩ := opC_open (base := base) h2 hh (fun j j1 j2 => hf j j1 (by simp only [nslP]; omega)) hn hb
    exact ⟨G', own', l, fun j hj => s j (by simp only [nslP] at hj; omega), ⟨valc_va h1 v, trivial⟩, hh', o1, o2⟩
  | t :: s :: r, x, us, bs, base, G, own, H, ho, hh, hf, hn, hb => by
    obtain ⟨u, cs, us', b1, b2, rfl, rfl, h1, h2, h3⟩ := ho
    have hn' := List.nodup_append.1 hn
    have e0 : nslP (t :: s :: r) = t.nsl + nslP (s :: r) := rfl
    obtain ⟨G1, own1, l1, s1, v1, hh1, o1, p1, q1⟩ := opC_open (base := base) h2 hh (fun j j1 j2 => hf j j1 (by omega)) hn'.1 (fun b hb' => hb b (by simp [hb']))
    obtain ⟨G2, own2, l2, s2, v2, hh2, o2, p2⟩ := opensR_open (ts := s :: r) (base := base + t.nsl) h3 hh1 (fun j j1 j2 => by
      rw [hget_hputs_out _ _ _ fun p hp => by have := opC_ids p hp; omega]
      exact hf j (by omega) (by omega)) hn'.2.1 (fun b hb' => by
      have := hb b (by simp [hb'])
      exact ⟨by rw [o1 b fun hx => hn'.2.2 b hx b hb' rfl]; exact this.1, this.2⟩)
    refine ⟨G2, own2, l1.trans l2, fun j hj => (s1 j (by omega)).trans (s2 j (by omega)), ⟨(valc_va h1 v1).le l2, v2⟩, ?_, fun b hb' => ?_, fun b j hb' => p2 b j (p1 b j hb')⟩
    · show Hs S G2 own2 (hputs H (app _ _)) w
      rw [app_eq, hputs_append]; exact hh2
    · simp at hb'
      rw [o2 b hb'.2, o1 b hb'.1]

theorem ofVs_ret {vs : List (Bool × List Cv)} {us : List Value} (h : VT S G vs us) : VV S G (ofVs vs) (retOf us) := by
  match vs, us, h with
  | [], [], _ => exact ⟨[], rfl, trivial⟩
  | [v], [u], h => exact h.1
  | a :: b :: r, u :: v :: s, h => exact ⟨_, rfl, h⟩
  | [_], _ :: _ :: _, h => exact h.2.elim
  | _ :: _ :: _, [_], h => exact h.2.elim

/-! ### What is given back -/
theorem put_box2 (hh : Hs S G own H w) {id b : Nat} {T : TypeId} {cs : List Cv} {us : List Value} {p : Place} (h1 : G.φ id 0 = some p) (h2 : p.blk = some b) (h3 : p.base = 0) (h4 : p.len = 1) (h5 : p.sz = cs.length)
    (ho : ∀ b j, own b = some j → j ≠ id → own' b = some j) (hown : ∀ b j, own' b = some j → b < w.heap.size ∧ (S.O b ∨ S.w0.heap.size ≤ b))
    (hblk : w.heap[b]? = some (.cells us.toArray T (0, 0))) (hid : own' b = some id) (hv : VL S G cs us) : Hs S G own' (hput H id (.box T cs)) w :=
  hh.upd id _ (Le.refl G) (fun j _ => Same.refl ..) (fun _ _ _ _ => rfl) ho ⟨p, b, us.toArray, h1, h2, h3, h4, h5, hblk, by simpa using hv, hid⟩ hown

theorem opC_len : ∀ {t : Ty} {x : t.D} {base : Nat}, (opC t x base).1.length = t.sz
  | .int _, _, _ => rfl
  | .bool, _, _ => rfl
  | .str, _, _ => rfl
  | .unit, _, _ => rfl
  | .pair a b, x, base => by simp only [opC, List.length_append, Ty.sz]; rw [opC_len, opC_len]
  | .st t, x, base => opC_len (t := t)
  | .slice _ _, _, _ => rfl
  | .rs _ _, _, _ => rfl
  | .bx _ _, _, _ => rfl

theorem ioC_skip {c : Cv} {r r' : List Cv} {us : List (Nat × Obj)} (h : skip1 (c :: r) = some (us, r')) : us = [] ∧ r' = r := by
  simp [skip1] at h
  exact ⟨h.1, h.2.symm⟩

structure BackR (S : Sta) (G1 : Gh) (own1 : Nat → Option Nat) (w' : World) (ids bs : List Nat) (base n : Nat) (H2 : List Obj) (G2 : Gh) (own2 : Nat → Option Nat) : Prop where
  le : Le G1 G2
  same : ∀ j, j ∉ ids → (j < base ∨ base + n ≤ j) → Same G1 G2 j
  hs : Hs S G2 own2 H2 w'
  out : ∀ b, b ∉ bs → own2 b = own1 b
  mono : ∀ b j, own1 b = some j → own2 b = some j

theorem BackR.refl {G1 : Gh} {own1 : Nat → Option Nat} {ids : List Nat} {base n : Nat} {H1 : List Obj} (h : Hs S G1 own1 H1 w') : BackR S G1 own1 w' ids [] base n H1 G1 own1 :=
  ⟨Le.refl _, fun _ _ _ => Same.refl .., h, fun _ _ => rfl, fun _ _ h => h⟩

theorem backC_ids : ∀ {t : Ty} {x : t.D} {cs r r' : List Cv} {x0 : t.D} {ids : List Nat} {base : Nat} {us : List (Nat × Obj)}, ioC look t cs = some (x0, r, ids) → backC look t x cs base = some (us, r') → r' = r ∧ ∀ p ∈ us, p.1 ∈ ids ∨ (base ≤ p.1 ∧ p.1 < base + t.nsl)
  | .int _, x, cs, r, r', x0, ids, base, us, h, hb => by
    obtain ⟨h', _⟩ := noIds_some h
    have e := chInt_some h'; subst e
    obtain ⟨rfl, rfl⟩ := ioC_skip hb
    exact ⟨rfl, fun p hp => by simp at hp⟩
  | .bool, x, cs, r, r', x0, ids, base, us, h, hb => by
    obtain ⟨h', _⟩ := noIds_some h
    have e := chBool_some h'; subst e
    obtain ⟨rfl, rfl⟩ := ioC_skip hb
    exact ⟨rfl, fun p hp => by simp at hp⟩
  | .str, x, cs, r, r', x0, ids, base, us, h, hb => by
    obtain ⟨h', _⟩ := noIds_some h
    have e := chStr_some h'; subst e
    obtain ⟨rfl, rfl⟩ := ioC_skip hb
    exact ⟨rfl, fun p hp => by simp at hp⟩
  | .unit, x, cs, r, r', x0, ids, base, us, h, hb => by
    simp [ioC] at h
    simp [backC] at hb
    obtain ⟨rfl, rfl⟩ := hb
    exact ⟨h.1, fun p hp => by simp at hp⟩
  | .pair a b, x, cs, r, r', x0, ids, base, us, h, hb => by
    obtain ⟨r1, i, j, h1, h2, rfl⟩ := ioC_pair h
    unfold backC at hb
    split at hb
    · rename_i u1 r2 hb1
      split at hb
      · rename_i u2 r3 hb2
        simp at hb
        obtain ⟨rfl, rfl⟩ := hb
        obtain ⟨rfl, k1⟩ := backC_ids h1 hb1
        obtain ⟨rfl, k2⟩ := backC_ids h2 hb2
        refine ⟨rfl, fun p hp => ?_⟩
        rw [app_eq] at hp
        simp only [Ty.nsl, List.mem_append]
        rcases List.mem_append.1 hp with hp | hp
        · rcases k1 p hp with k | k
          · exact .inl (.inl k)
          · exact .inr (by omega)
        · rcases k2 p hp with k | k
          · exact .inl (.inr k)
          · exact .inr (by omega)
      · cases hb
    · cases hb
  | .st t, x, cs, r, r', x0, ids, base, us, h, hb => backC_ids (t := t) (x0 := x0) h hb
  | .slice e t, x, cs, r, r', x0, ids, base, us, h, hb => by
    rcases chIo_some h with ⟨rfl, _, rfl⟩ | ⟨id, gen, rfl, rfl, h1⟩
    · simp [backC, rowBack] at hb
      obtain ⟨rfl, rfl⟩ := hb
      exact ⟨rfl, fun p hp => by simp at hp⟩
    · obtain ⟨m, ex, hlk⟩ := rdS_own h1
      simp [backC, rowBack, hlk] at hb
      obtain ⟨rfl, rfl⟩ := hb
      exact ⟨rfl, fun p hp => by simp at hp; subst hp; simp⟩
  | .rs e t, x, cs, r, r', x0, ids, base, us, h, hb => by
    obtain ⟨h', _⟩ := noIds_some h
    have e := chRs_some h'; subst e
    obtain ⟨rfl, rfl⟩ := ioC_skip hb
    exact ⟨rfl, fun p hp => by simp at hp⟩
  | .bx T t, x, cs, r, r', x0, ids, base, us, h, hb => by
    unfold ioC at h
    split at h
    · rename_i id r2 hc
      split at h
      · rename_i ds hbo
        split at h
        · rename_i y is ht
          simp at h
          obtain ⟨rfl, rfl, rfl⟩ := h
          simp only [backC, hc, Option.some.injEq, Prod.mk.injEq] at hb
          obtain ⟨rfl, rfl⟩ := hb
          refine ⟨rfl, fun p hp => ?_⟩
          simp only [Ty.nsl]
          rcases List.mem_cons.1 hp with rfl | hp
          · simp
          · have := opC_ids (t := t) p hp
            exact .inr (by omega)
        · cases h
      · cases h
    · cases h

theorem backC_back (hh : Hs S G own H w) (hl : LookOk look H) (hrows : ∀ (b : Nat) (e : TypeId) (cur : Array Value), w.heap[b]? = some (.cells cur e (0, 0)) → ∃ cur' : Array Value, w'.heap[b]? = some (.cells cur' e (0, 0)) ∧ cur'.size = cur.size) :
    ∀ {t : Ty} {x0 x : t.D} {cs r r' : List Cv} {ids : List Nat} {us0 c1 ur : List Value} {bs : List Nat} {G1 : Gh} {own1 : Nat → Option Nat} {H1 : List Obj} {base : Nat} {us : List (Nat × Obj)},
    ioC look t cs = some (x0, r, ids) → VL S G cs us0 → OwT S.Fr w' t x c1 bs → us0 = c1 ++ ur → Hs S G1 own1 H1 w' → Le G G1 → (∀ i ∈ ids, Same G G1 i) → (∀ j, base ≤ j → j < base + t.nsl → hget H1 j = .free) → (∀ i ∈ ids, i < base ∨ base + t.nsl ≤ i) → ids.Nodup → bs.Nodup →
    (∀ b ∈ bs, own1 b = none ∧ (S.O b ∨ S.w0.heap.size ≤ b)) → backC look t x cs base = some (us, r') →
    VL S G r ur ∧ ∃ G2 own2, BackR S G1 own1 w' ids bs base t.nsl (hputs H1 us) G2 own2
  | .int _, x0, x, cs, r, r', ids, us0, c1, ur, bs, G1, own1, H1, base, us, h, hv, ho, e0, hh1, hle, hs, hf, hi, hn, hbn, hb, hbk => by
    obtain ⟨h', _⟩ := noIds_some h
    have e := chInt_some h'; subst e
    obtain ⟨rfl, _⟩ := ioC_skip hbk
    obtain ⟨rfl, rfl⟩ := ho
    subst e0
    exact ⟨hv.2, G1, own1, BackR.refl hh1⟩
  | .bool, x0, x, cs, r, r', ids, us0, c1, ur, bs, G1, own1, H1, base, us, h, hv, ho, e0, hh1, hle, hs, hf, hi, hn, hbn, hb, hbk => by
    obtain ⟨h', _⟩ := noIds_some h
    have e := chBool_some h'; subst e
    obtain ⟨rfl, _⟩ := ioC_skip hbk
    obtain ⟨rfl, rfl⟩ := ho
    subst e0
    exact ⟨hv.2, G1, own1, BackR.refl hh1⟩
  | .str, x0, x, cs, r, r', ids, us0, c1, ur, bs, G1, own1, H1, base, us, h, hv, ho, e0, hh1, hle, hs, hf, hi, hn, hbn, hb, hbk => by
    obtain ⟨h', _⟩ := noIds_some h
    have e := chStr_some h'; subst e
    obtain ⟨rfl, _⟩ := ioC_skip hbk
    obtain ⟨rfl, rfl⟩ := ho
    subst e0
    exact ⟨hv.2, G1, own1, BackR.refl hh1⟩
  | .unit, x0, x, cs, r, r', ids, us0, c1, ur, bs, G1, own1, H1, base, us, h, hv, ho, e0, hh1, hle, hs, hf, hi, hn, hbn, hb, hbk => by
    simp [ioC] at h
    simp [backC] at hbk
    obtain ⟨rfl, _⟩ := hbk
    obtain ⟨rfl, rfl⟩ := ho
    obtain ⟨rfl, _⟩ := h
    subst e0
    exact ⟨hv, G1, own1, BackR.refl hh1⟩
  | .pair a b, x0, x, cs, r, r', ids, us0, c1, ur, bs, G1, own1, H1, base, us, h, hv, ho, e0, hh1, hle, hs, hf, hi, hn, hbn, hb, hbk => by
    obtain ⟨r1, i, j, h1, h2, rfl⟩ := ioC_pair h
    obtain ⟨d1, d2, b1, b2, rfl, rfl, o1, o2⟩ := ho
    simp only [Ty.nsl] at hf hi ⊢
    have hn' := List.nodup_append.1 hn
    have hbn' := List.nodup_append.1 hbn
    unfold backC at hbk
    split at hbk
    · rename_i u1 r2 hb1
      split at hbk
      · rename_i u2 r3 hb2
        simp at hbk
        obtain ⟨rfl, rfl⟩ := hbk
        obtain ⟨v1, G2, own2, R1⟩ := backC_back hh hl hrows h1 hv o1 (by rw [e0, List.append_assoc]) hh1 hle (fun k hk => hs k (by simp [hk])) (fun j j1 j2 => hf j j1 (by omega)) (fun k hk => by have := hi k (by simp [hk]); omega) hn'.1 hbn'.1 (fun y hy => hb y (by simp [hy])) hb1
        obtain ⟨rfl, k1⟩ := backC_ids h1 hb1
        obtain ⟨v2, G3, own3, R2⟩ := backC_back hh hl hrows h2 v1 o2 rfl R1.hs (hle.trans R1.le) (fun k hk => (hs k (by simp [hk])).trans (R1.same k (fun hk2 => hn'.2.2 k hk2 k hk rfl) (by have := hi k (by simp [hk]); omega))) (fun k k1' k2' => by
          rw [hget_hputs_out _ _ _ fun p hp => by
            rcases k1 p hp with q | q
            · have := hi p.1 (by simp [q]); omega
            · omega]
          exact hf k (by omega) (by omega)) (fun k hk => by have := hi k (by simp [hk]); omega) hn'.2.1 hbn'.2.1 (fun y hy => by
          have := hb y (by simp [hy])
          exact ⟨by rw [R1.out y fun hx => hbn'.2.2 y hx y hy rfl]; exact this.1, this.2⟩) hb2
        refine ⟨v2, G3, own3, R1.le.trans R2.le, fun k hk hr => ?_, by rw [app_eq, hputs_append]; exact R2.hs, fun y hy => ?_, fun y k hy => R2.mono y k (R1.mono y k hy)⟩
        · simp at hk
          exact (R1.same k hk.1 (by omega)).trans (R2.same k hk.2 (by omega))
        · simp at hy
          rw [R2.out y hy.2, R1.out y hy.1]
      · cases hbk
    · cases hbk
  | .st t, x0, x, cs, r, r', ids, us0, c1, ur, bs, G1, own1, H1, base, us, h, hv, ho, e0, hh1, hle, hs, hf, hi, hn, hbn, hb, hbk => backC_back (t := t) (x0 := x0) hh hl hrows h hv ho e0 hh1 hle hs hf hi hn hbn hb hbk
  | .slice e t, x0, x, cs, r, r', ids, us0, c1, ur, bs, G1, own1, H1, base, us, h, hv, ho, e0, hh1, hle, hs, hf, hi, hn, hbn, hb, hbk => by
    have hlen := ho.len
    match c1, hlen with
    | [u], _ =>
      subst e0
      rcases chIo_some h with ⟨rfl, _, rfl⟩ | ⟨id, gen, rfl, rfl, h1⟩
      · simp [backC, rowBack] at hbk
        obtain ⟨rfl, _⟩ := hbk
        rcases ho with ⟨_, _, rfl⟩ | ⟨b, o, c, cur, b2, e1, _⟩
        · exact ⟨hv.2, G1, own1, BackR.refl hh1⟩
        · have := hv.1
          rw [show u = _ from this] at e1
          simp at e1
      · obtain ⟨m, ex, hlk⟩ := rdS_own h1
        simp [backC, rowBack, hlk] at hbk
        obtain ⟨rfl, _⟩ := hbk
        refine ⟨hv.2, ?_⟩
        obtain ⟨p, p1, p2⟩ := hv.1
        have hob := hh.obj id
        rw [hl.of hlk (by simp)] at hob
        obtain ⟨_, hφ, hν, q, h4, h5, h6, hr, h7⟩ := hob
        rw [p1] at h4
        obtain rfl : p = q := by simpa using h4
        have hsm := hs id (by simp)
        have lenx : x.length = p.len := by
          obtain ⟨A, c, e1, _⟩ := p2.1.slice
          rcases ho with ⟨e2, rfl, _⟩ | ⟨b, o, c', cur, b2, e2, _⟩
          · simp at e2; rw [e2] at e1; simp at e1; rw [← e1.2.1]; rfl
          · simp at e2; rw [e2] at e1; simp at e1; exact e1.2.1
        have mk : ∀ own2 : Nat → Option Nat, (∀ b, b ∉ bs → own2 b = own1 b) → (∀ b j, own1 b = some j → own2 b = some j) → (∀ b j, own2 b = some j → b < w'.heap.size ∧ (S.O b ∨ S.w0.heap.size ≤ b)) →
            (match p.blk with
            | none => x = [] ∧ (none : Option Nat).getD 0 = 0
            | some b => ∃ (cur : Array Value) (bs : List Nat), w'.heap[b]? = some (.cells cur e (0, 0)) ∧ cur.size = p.lim ∧ p.base + (x.length + (none : Option Nat).getD 0) * t.sz ≤ p.lim ∧
                OwE (OwT S.Fr w' t) t.sz x (cur.toList.drop p.base) bs ∧ (b :: bs).Nodup ∧ ∀ x ∈ b :: bs, own2 x = some id) → ∃ G2 own2, BackR S G1 own1 w' [id] bs base (Ty.slice e t).nsl (hputs H1 [(id, .row e t gen (m + 1) none none x)]) G2 own2 := by
          intro own2 w1 w2 w3 w4
          obtain ⟨G2, l, _, s2, hh2⟩ := put_row (w' := w') (own' := own2) (id := id) (g := gen) (m := m + 1) (p := p) (e := e) (t := t) (ex := none) (xs := x) hh1 (.inr (by rw [hsm.φ]; exact p1)) (fun g' hg => by rw [hsm.φ]; exact hφ g' hg) (fun g' m' hg i o => by rw [hsm.ν]; exact hν g' m' (by omega) i o)
            h5 lenx.symm (by rw [lenx, h6]; simp; omega) (fun _ _ _ _ => rfl) (fun b j hb _ => w2 b j hb) w3 w4
          exact ⟨G2, own2, l, fun j hj _ => s2 j (by simpa using hj), hh2, w1, w2⟩
        rcases ho with ⟨e2, rfl, rfl⟩ | ⟨b, o, c', cur, b2, e2, k1, k2, k3, k4, rfl, k5⟩
        · simp at e2; subst e2
          refine mk own1 (fun _ _ => rfl) (fun _ _ h => h) hh1.own ?_
          have := p2.1
          unfold SlOf at this
          cases hblk : p.blk with
          | none => exact ⟨rfl, rfl⟩
          | some b =>
            rw [hblk] at this
            obtain ⟨o, c, e3, _⟩ := this
            simp at e3
        · simp at e2; subst e2
          have := p2.1
          unfold SlOf at this
          cases hblk : p.blk with
          | none => rw [hblk] at this; simp at this
          | some b' =>
            rw [hblk] at this h7
            obtain ⟨o', c, e3, g1, g2, g3, g4⟩ := this
            simp at e3
            obtain ⟨⟨rfl, rfl⟩, e4, rfl⟩ := e3
            obtain ⟨cur0, bs0, l1, l2, l3, l4, l5, l6, l7⟩ := h7
            obtain ⟨cur', m1, m2⟩ := hrows b e cur0 l1
            rw [k3] at m1
            simp at m1; subst m1
            refine (by
              refine mk (give own1 (b :: b2) id) (fun y hy => by unfold give; rw [if_neg hy]) (fun y j hy => ?_) (fun y j hy => ?_) ?_
              · unfold give
                split
                · rename_i hm
                  rw [(hb y hm).1] at hy; cases hy
                · exact hy
              · unfold give at hy
                split at hy
                · rename_i hm
                  exact ⟨OwT.lt (t := .slice e t) (x := x) (.inr ⟨b, o, c', cur, b2, rfl, k1, k2, k3, k4, rfl, k5⟩) y hm, (hb y hm).2⟩
                · exact hh1.own y j hy
              · rw [hblk]
                refine ⟨cur, b2, k3, m2.trans l2, ?_, ?_, hbn, fun y hy => by unfold give; rw [if_pos hy]⟩
                · rw [lenx, h6]
                  simp only [Option.getD_none, Nat.add_zero]
                  refine Nat.le_trans ?_ l3
                  exact Nat.add_le_add_left (Nat.mul_le_mul_right _ (by omega)) _
                · by_cases h0 : x.length = 0
                  · have : x = [] := List.eq_nil_of_length_eq_zero h0
                    subst this
                    exact k5
                  · rw [← (by have := g4 (by omega); simpa using this : o = p.base)]
                    exact k5 )
    | [], hlen => simp [Ty.sz] at hlen
    | _ :: _ :: _, hlen => simp [Ty.sz] at hlen
  | .rs e t, x0, x, cs, r, r', ids, us0, c1, ur, bs, G1, own1, H1, base, us, h, hv, ho, e0, hh1, hle, hs, hf, hi, hn, hbn, hb, hbk => by
    obtain ⟨h', _⟩ := noIds_some h
    have e := chRs_some h'; subst e
    obtain ⟨rfl, _⟩ := ioC_skip hbk
    obtain ⟨u, rfl, _, rfl⟩ := ho
    subst e0
    exact ⟨hv.2, G1, own1, BackR.refl hh1⟩
  | .bx T t, x0, x, cs, r, r', ids, us0, c1, ur, bs, G1, own1, H1, base, us, h, hv, ho, e0, hh1, hle, hs, hf, hi, hn, hbn, hb, hbk => by
    simp only [Ty.nsl] at hf hi ⊢
    unfold ioC at h
    split at h
    · rename_i id r2 hc
      split at h
      · rename_i ds hbo
        split at h
        · rename_i y is ht
          simp at h
          obtain ⟨rfl, rfl, rfl⟩ := h
          simp only [backC, hc, Option.some.injEq, Prod.mk.injEq] at hbk
          obtain ⟨rfl, rfl⟩ := hbk
          have e := chPtr_some hc; subst e
          obtain ⟨b, cur, b2, rfl, k1, rfl, k2⟩ := ho
          subst e0
          refine ⟨hv.2, ?_⟩
          obtain ⟨q, b', p1, p2, p3, p4⟩ := hv.1
          have hob := hh.obj id
          rw [hl.of (boxOf_some hbo) (by simp)] at hob
          obtain ⟨p, b3, cur0, q1, q2, q3, q4, q5, q6, q7, q8⟩ := hob
          rw [q1] at p1
          obtain rfl : p = q := by simpa using p1
          rw [q2] at p2
          obtain rfl : b3 = b' := by simpa using p2
          rw [q3] at p4
          simp at p4
          obtain ⟨rfl, _⟩ := p4
          have hbn' := List.nodup_cons.1 hbn
          have hn' := List.nodup_cons.1 hn
          obtain ⟨cc, uu1, uu2, bb, f1, f2, f3, f4, _⟩ := tkC_ow (t := t) hh hl ht q7 hn'.2
          have hds : ds.length = t.sz := by rw [← VL_len q7, f2, VL_nil f4, List.append_nil, f3.len]
          obtain ⟨G2, own2, l2, s2, v2, hh2, o2, m2, _⟩ := opC_open (t := t) (base := base + 1) k2 hh1 (fun j j1 j2 => hf j (by omega) (by omega)) hbn'.2 (fun y hy => hb y (by simp [hy]))
          have hid := hi id (by simp)
          have hsm := hs id (by simp)
          have hob2 : own2 b = none := by rw [o2 b hbn'.1]; exact (hb b (by simp)).1
          have hh3 := put_box2 (own' := give own2 [b] id) (us := cur.toList) hh2 (id := id) (b := b) (T := T) (cs := (opC t x (base + 1)).1) (p := p) (by rw [(s2 id (by omega)).φ, hsm.φ]; exact q1) q2 q3 q4 (by rw [q5, hds, opC_len]) (fun y j hy _ => by
            unfold give
            split
            · rename_i hm
              simp at hm; subst hm
              rw [hob2] at hy; cases hy
            · exact hy) (fun y j hy => by
            unfold give at hy
            split at hy
            · rename_i hm
              simp at hm; subst hm
              exact ⟨heap_lt k1, (hb y (by simp)).2⟩
            · exact hh2.own y j hy) (by simpa using k1) (by unfold give; simp) v2
          refine ⟨G2, give own2 [b] id, l2, fun j hj hr => s2 j (by omega), ?_, fun y hy => ?_, fun y j hy => ?_⟩
          · refine hh3.congr fun j => ?_
            rw [hputs]
            exact hget_hputs_put _ _ _ _ _ fun p hp => by have := opC_ids (t := t) p hp; omega
          · simp at hy
            unfold give
            rw [if_neg (by simpa using hy.1), o2 y hy.2]
          · unfold give
            split
            · rename_i hm
              simp at hm; subst hm
              rw [(hb y (by simp)).1] at hy; cases hy
            · exact m2 y j hy
        · cases h
      · cases h
    · cases h
end
end Go.Proofs.Ytgnnljpdcafdkaa.Ev

/- A call: what it comes to in the local heap. -/
namespace Go.Proofs.Ytgnnljpdcafdkaa.Ev
open Go

/-- the arguments that are given back -/
def IoL (look : Nat → Obj) : List Ty → List (List Cv) → List Nat → Prop
  | [], bk, ids => bk = [] ∧ ids = []
  | t :: r, bk, ids => ∃ (cs : List Cv) (bk' : List (List Cv)) (x0 : t.D) (i1 i2 : List Nat), bk = cs :: bk' ∧ ids = i1 ++ i2 ∧ ioC look t cs = some (x0, [], i1) ∧ IoL look r bk' i2

theorem IoL.append {look : Nat → Obj} : ∀ {ts ts' : List Ty} {bk bk' : List (List Cv)} {ids ids' : List Nat}, IoL look ts bk ids → IoL look ts' bk' ids' → IoL look (ts ++ ts') (bk ++ bk') (ids ++ ids')
  | [], _, _, _, _, _, ⟨h1, h2⟩, h => by rw [h1, h2]; exact h
  | t :: r, _, _, _, _, _, ⟨cs, bk', x0, i1, i2, e1, e2, k1, k2⟩, h => ⟨cs, _, x0, i1, _, by rw [e1]; rfl, by rw [e2, List.append_assoc], k1, k2.append h⟩

theorem gives_cons (p : PK) (r : List PK) : gives (p :: r) = gives [p] ++ gives r := by cases p <;> rfl

theorem takeArg_io {look : Nat → Obj} : ∀ {p : PK} {v : LV} {a : Took p.D}, takeArg look p v = some a → ∃ ids, ids.Sublist a.own ∧ IoL look (gives [p]) a.back ids
  | .val t, v, a, h => by
    simp only [takeArg] at h
    unfold tkVal at h
    have : a.back = [] := by
      repeat' split at h
      all_goals first | (cases h; done) | (simp at h; subst h; rfl)
    exact ⟨[], List.nil_sublist _, this, rfl⟩
  | .own t, v, a, h => by
    simp only [takeArg] at h
    unfold tkOwn at h
    have : a.back = [] := by
      repeat' split at h
      all_goals first | (cases h; done) | (simp at h; subst h; rfl)
    exact ⟨[], List.nil_sublist _, this, rfl⟩
  | .inout t, v, a, h => by
    simp only [takeArg] at h
    unfold tkIo at h
    split at h
    · rename_i ag cs
      split at h
      · split at h
        · rename_i x is hr
          simp at h; subst h
          exact ⟨is, List.Sublist.refl _, cs, [], x, is, [], rfl, by simp, hr, rfl, rfl⟩
        · cases h
      · cases h
    · cases h
  | .rptr t, v, a, h => by
    simp only [takeArg] at h
    unfold tkRp at h
    have : a.back = [] := by
      repeat' split at h
      all_goals first | (cases h; done) | (simp at h; subst h; rfl)
    exact ⟨[], List.nil_sublist _, this, rfl⟩
  | .fn t, v, a, h => by
    simp only [takeArg] at h
    unfold tkFn at h
    have : a.back = [] := by
      repeat' split at h
      all_goals first | (cases h; done) | (simp at h; subst h; rfl)
    exact ⟨[], List.nil_sublist _, this, rfl⟩

theorem takeArgs_io {look : Nat → Obj} : ∀ {ps : List PK} {vs : List LV} {a : Took (Ins ps)}, takeArgs look ps vs = some a → ∃ ids, ids.Sublist a.own ∧ IoL look (gives ps) a.back ids
  | [], vs, a, h => by
    cases vs with
    | nil => simp [takeArgs] at h; subst h; exact ⟨[], List.nil_sublist _, rfl, rfl⟩
    | cons _ _ => simp [takeArgs] at h
  | [p], vs, a, h => by
    match vs, h with
    | [v], h => exact takeArg_io (p := p) (by simpa [takeArgs] using h)
    | [], h => simp [takeArgs] at h
    | _ :: _ :: _, h => simp [takeArgs] at h
  | p :: q :: r, vs, a, h => by
    match vs, h with
    | [], h => simp [takeArgs] at h
    | v :: vs', h =>
      simp only [takeArgs] at h
      split at h
      · rename_i a1 h1
        split at h
        · rename_i a2 h2
          simp at h; subst h
          obtain ⟨i1, s1, k1⟩ := takeArg_io h1
          obtain ⟨i2, s2, k2⟩ := takeArgs_io h2
          rw [gives_cons]
          simp only [app_eq]
          exact ⟨i1 ++ i2, s1.append s2, k1.append k2⟩
        · cases h
      · cases h

section
variable {P : Program} {S : Sta} {G : Gh} {w w' : World} {own own' : Nat → Option Nat} {H : List Obj} {look : Nat → Obj}

theorem opensG_back (hh : Hs S G own H w) (hl : LookOk look H) (hrows : ∀ (b : Nat) (e : TypeId) (cur : Array Value), w.heap[b]? = some (.cells cur e (0, 0)) → ∃ cur' : Array Value, w'.heap[b]? = some (.cells cur' e (0, 0)) ∧ cur'.size = cur.size) :
    ∀ {ts : List Ty} {x : Prods ts} {bks : List (List Cv)} {bk : List (List Value)} {ids bs : List Nat} {G1 : Gh} {own1 : Nat → Option Nat} {H1 : List Obj} {base : Nat} {us : List (Nat × Obj)},
    IoL look ts bks ids → Backs S G bks bk → GivV S.Fr w' ts x bk bs → Hs S G1 own1 H1 w' → Le G G1 → (∀ i ∈ ids, Same G G1 i) → (∀ j, base ≤ j → j < base + nslP ts → hget H1 j = .free) → (∀ i ∈ ids, i < base ∨ base + nslP ts ≤ i) → ids.Nodup → bs.Nodup →
    (∀ b ∈ bs, own1 b = none ∧ (S.O b ∨ S.w0.heap.size ≤ b)) → opensG look ts bks x base = some us → ∃ G2 own2, BackR S G1 own1 w' ids bs base (nslP ts) (hputs H1 us) G2 own2
  | [], x, bks, bk, ids, bs, G1, own1, H1, base, us, hio, hbk, hg, hh1, hle, hs, hf, hi, hn, hbn, hb, h => by
    obtain ⟨rfl, rfl⟩ := hio
    obtain ⟨rfl, rfl⟩ := hg
    simp [opensG] at h; subst h
    exact ⟨G1, own1, BackR.refl hh1⟩
  | [t], x, bks, bk, ids, bs, G1, own1, H1, base, us, hio, hbk, hg, hh1, hle, hs, hf, hi, hn, hbn, hb, h => by
    obtain ⟨cs, bk', x0, i1, i2, rfl, rfl, k1, k2, k3⟩ := hio
    subst k2 k3
    obtain ⟨c1, rfl, o1⟩ := hg
    simp only [opensG] at h
    simp only [nslP] at hf hi ⊢
    rw [List.append_nil] at hs hi hn ⊢
    split at h
    · rename_i us' hb1
      simp at h; subst h
      obtain ⟨_, G2, own2, R⟩ := backC_back hh hl hrows k1 hbk.1 o1 (List.append_nil _).symm hh1 hle hs (fun j j1 j2 => hf j j1 (by omega)) (fun i hii => by have := hi i hii; omega) hn hbn hb hb1
      exact ⟨G2, own2, R⟩
    · cases h
  | t :: s :: r, x, bks, bk, ids, bs, G1, own1, H1, base, us, hio, hbk, hg, hh1, hle, hs, hf, hi, hn, hbn, hb, h => by
    obtain ⟨cs, bks', x0, i1, i2, rfl, rfl, k1, k2⟩ := hio
    obtain ⟨c1, bk', b1, b2, rfl, rfl, o1, o2⟩ := hg
    have e0 : nslP (t :: s :: r) = t.nsl + nslP (s :: r) := rfl
    rw [e0] at hf hi ⊢
    have hn' := List.nodup_append.1 hn
    have hbn' := List.nodup_append.1 hbn
    simp only [opensG] at h
    split at h
    · rename_i u1 hb1
      split at h
      · rename_i u2 hb2
        simp at h; subst h
        obtain ⟨_, G2, own2, R1⟩ := backC_back hh hl hrows k1 hbk.1 o1 (List.append_nil _).symm hh1 hle (fun i hii => hs i (by simp [hii])) (fun j j1 j2 => hf j j1 (by omega)) (fun i hii => by have := hi i (by simp [hii]); omega) hn'.1 hbn'.1 (fun y hy => hb y (by simp [hy])) hb1
        obtain ⟨_, q1⟩ := backC_ids k1 hb1
        obtain ⟨G3, own3, R2⟩ := opensG_back hh hl hrows k2 hbk.2 o2 R1.hs (hle.trans R1.le) (fun k hk => (hs k (by simp [hk])).trans (R1.same k (fun hk2 => hn'.2.2 k hk2 k hk rfl) (by have := hi k (by simp [hk]); omega))) (fun k k1' k2' => by
          rw [hget_hputs_out _ _ _ fun p hp => by
            rcases q1 p hp with q | q
            · have := hi p.1 (by simp [q]); omega
            · omega]
          exact hf k (by omega) (by omega)) (fun k hk => by have := hi k (by simp [hk]); omega) hn'.2.1 hbn'.2.1 (fun y hy => by
          have := hb y (by simp [hy])
          exact ⟨by rw [R1.out y fun hx => hbn'.2.2 y hx y hy rfl]; exact this.1, this.2⟩) hb2
        refine ⟨G3, own3, R1.le.trans R2.le, fun k hk hr => ?_, by rw [app_eq, hputs_append]; exact R2.hs, fun y hy => ?_, fun y k hy => R2.mono y k (R1.mono y k hy)⟩
        · simp at hk
          exact (R1.same k hk.1 (by omega)).trans (R2.same k hk.2 (by omega))
        · simp at hy
          rw [R2.out y hy.2, R1.out y hy.1]
      · cases h
    · cases h

theorem ioC_live {t : Ty} {cs r : List Cv} {x : t.D} {ids : List Nat} (h : ioC look t cs = some (x, r, ids)) : ∀ i ∈ ids, look i ≠ .free := tkC_live (ioC_tk h)

theorem takeArg_live : ∀ {p : PK} {v : LV} {a : Took p.D}, takeArg look p v = some a → ∀ i ∈ a.own, look i ≠ .free
  | .val t, v, a, h => by
    simp only [takeArg] at h
    unfold tkVal at h
    have : a.own = [] := by
      repeat' split at h
      all_goals first | (cases h; done) | (simp at h; subst h; rfl)
    rw [this]; simp
  | .own t, v, a, h => by
    simp only [takeArg] at h
    unfold tkOwn at h
    split at h
    · split at h
      · split at h
        · rename_i hr; simp at h; subst h; exact tkC_live hr
        · cases h
      · cases h
    · cases h
  | .inout t, v, a, h => by
    simp only [takeArg] at h
    unfold tkIo at h
    split at h
    · split at h
      · split at h
        · rename_i hr; simp at h; subst h; exact ioC_live hr
        · cases h
      · cases h
    · cases h
  | .rptr t, v, a, h => by
    simp only [takeArg] at h
    unfold tkRp at h
    have : a.own = [] := by
      repeat' split at h
      all_goals first | (cases h; done) | (simp at h; subst h; rfl)
    rw [this]; simp
  | .fn t, v, a, h => by
    simp only [takeArg] at h
    unfold tkFn at h
    have : a.own = [] := by
      repeat' split at h
      all_goals first | (cases h; done) | (simp at h; subst h; rfl)
    rw [this]; simp
theorem takeArgs_live : ∀ {ps : List PK} {vs : List LV} {a : Took (Ins ps)}, takeArgs look ps vs = some a → ∀ i ∈ a.own, look i ≠ .free
  | [], vs, a, h => by
    cases vs with
    | nil => simp [takeArgs] at h; subst h; simp
    | cons _ _ => simp [takeArgs] at h
  | [p], vs, a, h => by
    match vs, h with
    | [v], h => exact takeArg_live (p := p) (by simpa [takeArgs] using h)
    | [], h => simp [takeArgs] at h
    | _ :: _ :: _, h => simp [takeArgs] at h
  | p :: q :: r, vs, a, h => by
    match vs, h with
    | [], h => simp [takeArgs] at h
    | v :: vs', h =>
      simp only [takeArgs] at h
      split at h
      · rename_i a1 h1
        split at h
        · rename_i a2 h2
          simp at h; subst h
          simp only [app_eq]
          intro i hi
          rcases List.mem_append.1 hi with hi | hi
          · exact takeArg_live h1 i hi
          · exact takeArgs_live h2 i hi
        · cases h
      · cases h

theorem opensR_ids : ∀ {ts : List Ty} {x : Prods ts} {base : Nat}, ∀ p ∈ (opensR ts x base).2, base ≤ p.1 ∧ p.1 < base + nslP ts
  | [], _, _, p, h => by simp [opensR] at h
  | [t], x, base, p, h => by have := opC_ids (t := t) (x := x) p h; simp only [nslP]; omega
  | t :: s :: r, x, base, p, h => by
    have h' : p ∈ app (opC t x.1 base).2 (opensR (s :: r) x.2 (base + t.nsl)).2 := h
    rw [app_eq] at h'
    have e0 : nslP (t :: s :: r) = t.nsl + nslP (s :: r) := rfl
    rcases List.mem_append.1 h' with h' | h'
    · have := opC_ids p h'; omega
    · have := opensR_ids p h'; omega

theorem rdS_rst {ids : List Nat} {e : TypeId} {t : Ty} {id gen : Nat} (hi : id ∈ ids) : rdS (rst look ids) e t (.own id gen) = rdS look e t (.own id gen) := by
  simp only [rdS, rst_in hi]
theorem tkC_rst {ids : List Nat} : ∀ {t : Ty} {cs r : List Cv} {x : t.D} {is : List Nat}, (∀ i ∈ is, i ∈ ids) → tkC look t cs = some (x, r, is) → tkC (rst look ids) t cs = some (x, r, is)
  | .int _, _, _, _, _, _, h => h
  | .bool, _, _, _, _, _, h => h
  | .str, _, _, _, _, _, h => h
  | .unit, _, _, _, _, _, h => h
  | .pair a b, cs, r, x, is, hs, h => by
    obtain ⟨r1, i, j, h1, h2, rfl⟩ := tkC_pair h
    simp [tkC, tkC_rst (fun k hk => hs k (by simp [hk])) h1, tkC_rst (fun k hk => hs k (by simp [hk])) h2]
  | .st t, _, _, _, _, hs, h => tkC_rst (t := t) hs h
  | .slice e t, cs, r, x, is, hs, h => by
    rcases chTk_some h with ⟨rfl, rfl, rfl⟩ | ⟨id, gen, rfl, rfl, h1⟩ | ⟨id, gen, off, len, rfl, rfl, h1⟩
    · rfl
    · simp only [tkC, chTk, rdS_rst (hs id (by simp)), h1]
    · have : rdS (rst look ids) e t (.part id gen off len) = some x := by
        rw [← h1]; simp only [rdS, rst_in (hs id (by simp))]
      simp only [tkC, chTk, this]
  | .rs _ _, _, _, _, _, _, h => h
  | .bx T t, cs, r, x, is, hs, h => by
    unfold tkC at h
    split at h
    · rename_i id r' hc
      split at h
      · rename_i ds hb
        split at h
        · rename_i y js ht
          simp at h
          obtain ⟨rfl, rfl, rfl⟩ := h
          have e1 := rst_in (look := look) (hs id (by simp))
          simp [tkC, hc, e1, hb, tkC_rst (t := t) (fun k hk => hs k (by simp [hk])) ht]
        · cases h
      · cases h
    · cases h
theorem ioC_rst {ids : List Nat} : ∀ {t : Ty} {cs r : List Cv} {x : t.D} {is : List Nat}, (∀ i ∈ is, i ∈ ids) → ioC look t cs = some (x, r, is) → ioC (rst look ids) t cs = some (x, r, is)
  | .int _, _, _, _, _, _, h => h
  | .bool, _, _, _, _, _, h => h
  | .str, _, _, _, _, _, h => h
  | .unit, _, _, _, _, _, h => h
  | .pair a b, cs, r, x, is, hs, h => by
    obtain ⟨r1, i, j, h1, h2, rfl⟩ := ioC_pair h
    simp [ioC, ioC_rst (fun k hk => hs k (by simp [hk])) h1, ioC_rst (fun k hk => hs k (by simp [hk])) h2]
  | .st t, _, _, _, _, hs, h => ioC_rst (t := t) hs h
  | .slice e t, cs, r, x, is, hs, h => by
    rcases chIo_some h with ⟨rfl, rfl, rfl⟩ | ⟨id, gen, rfl, rfl, h1⟩
    · rfl
    · simp only [ioC, chIo, rdS_rst (hs id (by simp)), h1]
  | .rs _ _, _, _, _, _, _, h => h
  | .bx T t, _, _, _, _, hs, h => tkC_rst (t := .bx T t) hs h
theorem IoL_rst {ids : List Nat} : ∀ {ts : List Ty} {bk : List (List Cv)} {is : List Nat}, (∀ i ∈ is, i ∈ ids) → IoL look ts bk is → IoL (rst look ids) ts bk is
  | [], _, _, _, h => h
  | t :: r, _, _, hs, ⟨cs, bk', x0, i1, i2, e1, e2, k1, k2⟩ => by
    subst e2
    refine ⟨cs, bk', x0, i1, i2, e1, rfl, ?_, IoL_rst (fun i hi => hs i (by simp [hi])) k2⟩
    exact ioC_rst (fun i hi => hs i (by simp [hi])) k1

/-- what a call comes to -/
def DoesC (P : Program) (S : Sta) (G : Gh) (H : List Obj) (f : FuncId) (us : List Value) (w : World) (v : LV) (upd : List (Nat × Obj)) : Prop :=
  Callable P f ∧ Calls P f us.toArray w fun e w' => ∃ u G' own', e = .returned u ∧ Le G G' ∧ VV S G' v u ∧ Keeps S.O S.w0 w' ∧ Hs S G' own' (hputs H upd) w'

theorem callK_does (hF : S.FrOk) (hk : Keeps S.O S.w0 w) (hh : Hs S G own H w) (hl : LookOk look H) {E : Env} {f : FuncId} (hE : ∀ x out, E.call f x = some out → CallOk P (E.sg f) f x out) {base : Nat} (hf : ∀ j, base ≤ j → j < base + 32 → hget H j = .free)
    {as : List LV} {us : List Value} (hv : VF S G as us) {v : LV} {upd : List (Nat × Obj)} (h : callK E look base f as (fun v us => some (v, us)) = some (v, upd)) : DoesC P S G H f us w v upd := by
  unfold callK at h
  split at h
  · rename_i a ha
    split at h
    · rename_i hnd
      split at h
      · rename_i hdj
        split at h
        · rename_i h32
          split at h
          · cases h
          · rename_i out hout
            split at h
            · rename_i ub hub
              simp only [Option.some.injEq, Prod.mk.injEq] at h
              obtain ⟨rfl, rfl⟩ := h
              rw [ndup_iff] at hnd
              rw [disj_iff] at hdj
              obtain ⟨bs, bk, k1, k2, k3, k4⟩ := takeArgs_args (ids := a.own) hF hk hh hl ha hv hdj hnd
              obtain ⟨ids, sids, hio⟩ := takeArgs_io ha
              obtain ⟨hcall, hC⟩ := hE _ _ hout
              refine ⟨hcall, ?_⟩
              have hlt : ∀ b j, own b = some j → b < w.heap.size := fun b j h => (hh.own b j h).1
              have hokI : ∀ b, okI w own a.own b → okB w bs b := fun b hb => ⟨hb.1, fun hm => by obtain ⟨i, h1, h2⟩ := k3 b hm; exact hb.2 i h1 h2⟩
              refine (hC w S.Fr us bs bk (fun e t xs u hfr => (hF e t xs u hfr).mono (fun b hb => hokI b (ok_okI hk hh hb)) (fun b hb => hk.block b hb.1 hb.2) (fun x cs hx => hx.mono (fun b hb => hokI b (ok_okI hk hh hb)) fun b hb => hk.block b hb.1 hb.2)) (k1.mono hokI) k2).mono ?_
              rintro e w' ⟨vs, r1, r2, rfl, hkw, hres, hgiv, hrn, hrb⟩
              have hrn' := List.nodup_append.1 hrn
              have hbO : ∀ b ∈ bs, S.O b ∨ S.w0.heap.size ≤ b := fun b hb => by obtain ⟨i, _, h2⟩ := k3 b hb; exact (hh.own b i h2).2
              have hh0 : Hs S G (kill own a.own) (hputs H (deads a.own)) w' := (hh.kill a.own).move (fun b j hb => hkw.block b (hlt b j (kill_some.1 hb).1) fun hm => by
                obtain ⟨i, h1, h2⟩ := k3 b hm
                obtain ⟨m1, m2⟩ := kill_some.1 hb
                rw [h2] at m1
                simp at m1; subst m1
                exact m2 h1) hkw.size
              have hnew : ∀ b, b ∈ bs ∨ w.heap.size ≤ b → kill own a.own b = none ∧ (S.O b ∨ S.w0.heap.size ≤ b) := fun b hb => by
                rcases hb with hb | hb
                · refine ⟨?_, hbO b hb⟩
                  obtain ⟨i, h1, h2⟩ := k3 b hb
                  unfold kill; rw [h2]; simp [h1]
                · refine ⟨?_, .inr (Nat.le_trans hk.size hb)⟩
                  cases hx : kill own a.own b with
                  | none => rfl
                  | some j => have := hlt b j (kill_some.1 hx).1; omega
              have hlive : ∀ i ∈ a.own, i < base ∨ base + 32 ≤ i := fun i hi => by
                rcases Nat.lt_or_ge i base with h1 | h1
                · exact .inl h1
                · rcases Nat.lt_or_ge i (base + 32) with h2 | h2
                  · exfalso
                    have h3 := takeArgs_live ha i hi
                    rcases hl i with x | x
                    · exact h3 x
                    · rw [x] at h3; exact h3 (hf i h1 h2)
                  · exact .inr h2
              have hf0 : ∀ j, base ≤ j → j < base + 32 → hget (hputs H (deads a.own)) j = .free := fun j j1 j2 => by
                rw [hget_deads, if_neg fun hm => by have := hlive j hm; omega]
                exact hf j j1 j2
              obtain ⟨G1, own1, l1, s1, v1, hh1, o1, m1⟩ := opensR_open (base := base) hres hh0 (fun j j1 j2 => hf0 j j1 (by omega)) hrn'.1 (fun b hb => hnew b (hrb b (by simp [hb])))
              have hl2 : LookOk (rst look a.own) H := fun i => by
                unfold rst
                split
                · exact hl i
                · exact .inl rfl
              have hsub : ∀ i ∈ ids, i ∈ a.own := fun i hi => sids.subset hi
              have hioR : ∀ i ∈ a.own, rst look a.own i = look i := fun i hi => rst_in hi
              have rdOut : ∀ p ∈ (opensR (E.sg f).rs (outR (E.sg f).rs (gives (E.sg f).ps) out) base).2, base ≤ p.1 ∧ p.1 < base + nslP (E.sg f).rs := opensR_ids
              have hioL : IoL (rst look a.own) (gives (E.sg f).ps) a.back ids := IoL_rst hsub hio
              obtain ⟨G2, own2, R⟩ := opensG_back (w' := w') hh hl2 hkw.rows hioL k4 hgiv hh1 l1 (fun i hi => s1 i (by have := hlive i (hsub i hi); omega)) (fun j j1 j2 => by
                rw [hget_hputs_out _ _ _ fun p hp => by have := rdOut p hp; omega]
                exact hf0 j (by omega) (by omega)) (fun i hi => by have := hlive i (hsub i hi); omega) (List.Nodup.sublist sids hnd) hrn'.2.1 (fun b hb => by
                have := hnew b (hrb b (by simp [hb]))
                exact ⟨by rw [o1 b fun hx => hrn'.2.2 b hx b hb rfl]; exact this.1, this.2⟩) hub
              refine ⟨retOf vs, G2, own2, rfl, l1.trans R.le, (ofVs_ret v1).le R.le, hk.step hkw hbO, ?_⟩
              rw [hputs_app, hputs_app]
              exact R.hs
            · cases h
        · cases h
      · cases h
    · cases h
  · cases h
end
end Go.Proofs.Ytgnnljpdcafdkaa.Ev

/- One operation: what the machine does is what the evaluator says. -/
namespace Go.Proofs.Ytgnnljpdcafdkaa.Ev
open Go

structure EnvOk (P : Program) (E : Env) : Prop where
  tt : TTok P E.tt
  call : ∀ f x out, E.call f x = some out → CallOk P (E.sg f) f x out
  body : ∀ f fn, E.body f = some fn → P.funcs[f]? = some fn ∧ (fn.name == "runtime.NumGoroutine") = false

section
variable {P : Program} {S : Sta} {G : Gh} {w : World} {own : Nat → Option Nat} {H : List Obj} {look : Nat → Obj} {E : Env}

theorem lvs_vf {F : List LV} {ev : Operand → Value} (hev : ∀ x, VV S G (opv F x) (ev x)) : ∀ (xs : List Operand), VF S G (lvs (opv F) xs) (xs.map ev)
  | [] => trivial
  | x :: r => ⟨hev x, lvs_vf hev r⟩
theorem lvP_pv {F : List LV} {ev : Operand → Value} (hev : ∀ x, VV S G (opv F x) (ev x)) : ∀ (xs : List (Nat × Operand)), PV S G (aopK.lvP (opv F) xs) (xs.map fun (i, x) => (i, ev x))
  | [] => trivial
  | (i, x) :: r => ⟨⟨rfl, hev x⟩, lvP_pv hev r⟩
theorem lvP_len {lv : Operand → LV} : ∀ (xs : List (Nat × Operand)), (aopK.lvP lv xs).length = xs.length
  | [] => rfl
  | _ :: r => by simp [aopK.lvP, lvP_len r]
theorem ptrs_vf : ∀ {ids : List Nat} {vs : List Value}, CapsOk G ids vs → VF S G (ptrs ids) vs
  | [], [], _ => trivial
  | _ :: _, _ :: _, ⟨h1, h2⟩ => ⟨⟨h1, trivial⟩, ptrs_vf h2⟩
  | [], _ :: _, h => h.elim
  | _ :: _, [], h => h.elim
theorem VF.append : ∀ {a b : List LV} {u v : List Value}, VF S G a u → VF S G b v → VF S G (a ++ b) (u ++ v)
  | [], _, [], _, _, h => h
  | _ :: _, _, _ :: _, _, ⟨h1, h2⟩, h => ⟨h1, VF.append h2 h⟩
  | [], _, _ :: _, _, h, _ => h.elim
  | _ :: _, _, [], _, h, _ => h.elim

/-- what an operation of the machine's comes to, told to what goes on behind it -/
def Next1 (P : Program) (S : Sta) (G : Gh) (H : List Obj) (o : Oper) (a : Act) (w : World) (v : LV) (us : List (Nat × Obj)) : Prop :=
  ∀ (K : Act → World → Prop) (Q : Exit → Act → World → Prop), (∀ u w' G' own', Le G G' → VV S G' v u → Keeps S.O S.w0 w' → Hs S G' own' (hputs H us) w' → K (a.put o.dst u) w') → o.wp P a w K Q

theorem next_does {o : Oper} {a : Act} {s : Sem Value} {v : LV} {us : List (Nat × Obj)} (hx : execOp a.eval o = (do pure (.value (← s)))) (h : Does P S G H s w v us) : Next1 P S G H o a w v us := by
  intro K Q hK
  obtain ⟨u, w', G', own', h1, h2, h3, h4, h5⟩ := h
  exact wp_val (by rw [hx, Sem.run_bind, h1]; rfl) (hK u w' G' own' h2 h3 h4 h5)
theorem next_gives (hk : Keeps S.O S.w0 w) (hh : Hs S G own H w) {o : Oper} {a : Act} {s : Sem Value} {v : LV} (hx : execOp a.eval o = (do pure (.value (← s)))) (h : Gives P S G s w v) : Next1 P S G H o a w v [] :=
  next_does hx (h.does hk hh)

theorem one_of {v : LV} {c : Cv} {u : Value} (h : one v = some c) (hv : VV S G v u) : VC S G c u := by
  rw [one_eq h] at hv; exact hv.1
theorem int_of {k : IntKind} {n : Int} {v : LV} {u : Value} (h : v = .v false [.int k n]) (hv : VV S G v u) : u = .int k n := by
  subst h; exact hv.1
theorem str_of {s : ByteArray} {v : LV} {u : Value} (h : v = .v false [.str s]) (hv : VV S G v u) : u = .string s := by
  subst h; exact hv.1
theorem bndOf {F : List LV} {ev : Operand → Value} (hev : ∀ x, VV S G (opv F x) (ev x)) {x : Option Operand} {l : Option Int} (h : intOf? (x.map (opv F)) = some l) : BndOf (x.map ev) l := by
  cases x with
  | none => simp [intOf?] at h; subst h; trivial
  | some x =>
    simp only [Option.map_some] at h ⊢
    unfold intOf? at h
    split at h
    · rename_i e; simp at e
    · rename_i k n e
      simp at e
      simp at h; subst h
      exact ⟨k, int_of e (hev x)⟩
    · cases h

theorem next_call {o : Oper} {a : Act} {g : FuncId} {vals : List Value} {v : LV} {us : List (Nat × Obj)} (hx : (execOp a.eval o).run P w = .ok (.enter g vals.toArray) w) (h : DoesC P S G H g vals w v us) : Next1 P S G H o a w v us := by
  intro K Q hK
  unfold Oper.wp
  rw [hx, Oper.upon_enter]
  refine h.2.mono ?_
  rintro e w' ⟨u, G', own', rfl, h2, h3, h4, h5⟩
  exact hK u w' G' own' h2 h3 h4 h5

theorem run_callFunc {f : FuncId} (h : Callable P f) (args : Array Value) (w : World) : (callFunc f args).run P w = .ok (.enter f args) w := by
  obtain ⟨fn, h1, h2, h3⟩ := h
  unfold callFunc
  have h2' : ¬ fn.name = "runtime.NumGoroutine" := by simpa using h2
  have h3' : ¬ fn.body = none := fun e => by rw [e] at h3; simp at h3
  simp [Sem.run_bind, h1, h2', h3']
end
end Go.Proofs.Ytgnnljpdcafdkaa.Ev

/- One operation, all kinds. -/
namespace Go.Proofs.Ytgnnljpdcafdkaa.Ev
open Go

section
variable {P : Program} {S : Sta} {G : Gh} {w : World} {own : Nat → Option Nat} {H : List Obj} {look : Nat → Obj} {E : Env}

theorem op_call (ok : EnvOk P E) (hF : S.FrOk) (hk : Keeps S.O S.w0 w) (hh : Hs S G own H w) (hl : LookOk look H) {base : Nat} (hf : ∀ j, base ≤ j → j < base + 32 → hget H j = .free) {F : List LV} {a : Act} (hev : ∀ x, VV S G (opv F x) (a.eval x)) {o : Oper} {c : Call} (ho : o.op = .call c)
    {v : LV} {us : List (Nat × Obj)} {f : Operand} (hc : c.callee = .value f) (h : (match opv F f with
      | .v false [.fn g ids] => callK E look base g (app (lvs (opv F) c.args.toList) (ptrs ids)) fun v us => some (v, us)
      | .v false [.efn g t x] => match t with
        | .unit => callK E look base g (lvs (opv F) c.args.toList) fun v us => some (v, us)
        | t => callK E look base g (app (lvs (opv F) c.args.toList) [.c (.eptr t x 0)]) fun v us => some (v, us)
      | _ => none) = some (v, us)) : Next1 P S G H o a w v us := by
  have hfv := hev f
  have run : ∀ (g : FuncId) (caps vals : List Value), a.eval f = .func (.func g) #[] caps.toArray → DoesC P S G H g (c.args.toList.map a.eval ++ caps) w v us → Next1 P S G H o a w v us := by
    intro g caps vals e hd
    refine next_call (g := g) ?_ hd
    unfold execOp
    rw [ho]
    have := run_callFunc hd.1 (c.args.toList.map a.eval ++ caps).toArray w
    simp only [Sem.run_bind, resolve, hc, e, Deferred.ofValue, Sem.run_pure, Result.andThen_ok, invoke]
    rw [← this]
    congr 2
    apply Array.ext'
    simp
  revert h hfv
  generalize opv F f = lf
  intro h hfv
  split at h
  · rename_i g ids
    obtain ⟨vs, e, hcap⟩ := hfv.1
    rw [app_eq] at h
    exact run g vs [] e (callK_does hF hk hh hl (ok.call g) hf ((lvs_vf hev _).append (ptrs_vf hcap)) h)
  · rename_i g t x
    rcases hfv.1 with ⟨rfl, e⟩ | ⟨ht, pv, e, hp⟩
    · have := callK_does hF hk hh hl (ok.call g) hf (lvs_vf hev _) h
      exact run g [] [] e (by rw [List.append_nil]; exact this)
    · have key : callK E look base g (app (lvs (opv F) c.args.toList) [.c (.eptr t x 0)]) (fun v us => some (v, us)) = some (v, us) := by
        cases t <;> first | exact h | exact absurd rfl ht
      rw [app_eq] at key
      exact run g [pv] [] e (callK_does hF hk hh hl (ok.call g) hf ((lvs_vf hev _).append (show VF S G [.c (.eptr t x 0)] [pv] from ⟨⟨hp, trivial⟩, trivial⟩)) key)
  · cases h

theorem op_builtin (ok : EnvOk P E) (hF : S.FrOk) (hk : Keeps S.O S.w0 w) (hh : Hs S G own H w) (hl : LookOk look H) {base : Nat} (hf : hget H base = .free) {F : List LV} {a : Act} (hev : ∀ x, VV S G (opv F x) (a.eval x)) {o : Oper} {c : Call} (ho : o.op = .call c)
    {v : LV} {us : List (Nat × Obj)} {b : Builtin} (hc : c.callee = .builtin b) (h : builtinK E look base b c.argTypes.toList (lvs (opv F) c.args.toList) (fun v us => some (v, us)) = some (v, us)) : Next1 P S G H o a w v us := by
  have hvs := lvs_vf hev c.args.toList
  -- the machine's own call of a builtin
  have exec : ∀ {s : Sem Value}, (∀ cs, builtin b c.argTypes o.type cs (c.args.map a.eval) = (do pure (.value (← s)))) → Does P S G H s w v us → Next1 P S G H o a w v us := by
    intro s hs hd K Q hK
    obtain ⟨u, w', G', own', h1, h2, h3, h4, h5⟩ := hd
    refine wp_val ?_ (hK u w' G' own' h2 h3 h4 h5)
    unfold execOp
    rw [ho]
    simp only [Sem.run_bind, resolve, hc, Sem.run_pure, Result.andThen_ok, invoke]
    rw [hs, Sem.run_bind, h1]
    rfl
  have hargs : c.args.map a.eval = (c.args.toList.map a.eval).toArray := by
    apply Array.ext'; simp
  have htys : c.argTypes = c.argTypes.toList.toArray := by simp
  revert h hvs
  rw [hargs, htys] at exec
  generalize lvs (opv F) c.args.toList = vs
  generalize c.args.toList.map a.eval = xs at exec ⊢
  simp only [Array.toArray_toList] at exec
  intro h hvs
  unfold builtinK at h
  split at h
  · -- len
    rename_i x
    match xs, hvs with
    | [u], hvs =>
      split at h
      · rename_i T ts hts
        have h0 : c.argTypes[0]? = some T := by rw [← Array.getElem?_toList, hts]; rfl
        split at h
        · rename_i s
          split at h
          · rename_i hT
            simp at h
            obtain ⟨rfl, rfl⟩ := h
            refine exec (fun _ => rfl) ?_
            rw [show u = _ from hvs.1.1]
            exact (lenS_gives (ok.tt.str _ hT) c.argTypes h0 o.type).does hk hh
          · cases h
        · split at h
          · rename_i hT
            obtain ⟨e, he⟩ := Option.isSome_iff_exists.1 hT
            rw [lenK_nat] at h
            obtain ⟨c', h1, h2⟩ := Option.bind_eq_some_iff.1 h
            simp at h2
            obtain ⟨rfl, rfl⟩ := h2
            exact exec (fun _ => rfl) ((len_gives (ok.tt.elem _ _ he) hh hF hl hvs.1.1 h1 c.argTypes h0 o.type).does hk hh)
          · cases h
      · cases h
    | [], hvs => exact hvs.elim
    | _ :: _ :: _, hvs => exact hvs.2.elim
  · -- append
    rename_i x y
    match xs, hvs with
    | [ux, uy], hvs =>
      split at h
      · rename_i T T2 hts
        have hta : c.argTypes = #[T, T2] := by apply Array.ext'; simpa using hts
        split at h
        · rename_i e hT
          split at h
          · rename_i t he
            split at h
            · rename_i s hvs
              split at h
              · split at h
                · rename_i hT2
                  rw [appendK_nat] at h
                  obtain ⟨p, h1, h2⟩ := Option.bind_eq_some_iff.1 h
                  simp at h2
                  obtain ⟨rfl, rfl⟩ := h2
                  refine exec (s := Builtin.append_ #[T, T2] o.type #[ux, uy]) (fun _ => by rw [hta]; rfl) ?_
                  rw [show uy = _ from hvs.2.1.1]
                  exact append_does ok.tt hF hk hh hl hf hT he hvs.1.1 (str_adds (ok.tt.str _ hT2) s) (fun i hi => by simp at hi) h1
                · cases h
              · cases h
            · split at h
              · rename_i hT2
                obtain ⟨e2, he2⟩ := Option.isSome_iff_exists.1 hT2
                split at h
                · rename_i ys ids hadd
                  rw [appendK_nat] at h
                  obtain ⟨p, h1, h2⟩ := Option.bind_eq_some_iff.1 h
                  simp at h2
                  obtain ⟨rfl, rfl⟩ := h2
                  refine exec (s := Builtin.append_ #[T, T2] o.type #[ux, uy]) (fun _ => by rw [hta]; rfl) ?_
                  obtain ⟨⟨news, bs, hadds⟩, hlive⟩ := addS_adds hF hk hh hl (ok.tt.elem _ _ he2) hvs.2.1.1 hadd
                  exact append_does ok.tt hF hk hh hl hf hT he hvs.1.1 hadds hlive h1
                · cases h
              · cases h
          · cases h
        · cases h
      · cases h
    | [], hvs => exact hvs.elim
    | [_], hvs => exact hvs.2.elim
    | _ :: _ :: _ :: _, hvs => exact hvs.2.2.elim
  · -- clear
    rename_i id gen off len
    match xs, hvs with
    | [u], hvs =>
      split at h
      · rename_i T hts
        have hta : c.argTypes = #[T] := by apply Array.ext'; simpa using hts
        split at h
        · rename_i e t g m ex le ys hlk
          split at h
          · rename_i hz
            split at h
            · rename_i hg
              split at h
              · rename_i hoff
                simp at h
                obtain ⟨rfl, rfl⟩ := h
                obtain ⟨e0, t0, he0, ht0, hz0⟩ := elemSz_some hz
                subst hg
                exact exec (s := Builtin.clear_ #[T] o.type #[u]) (fun _ => by rw [hta]; rfl) (clear_does ok.tt hk hh hl he0 ht0 hlk hz0 hoff hvs.1.1)
              · cases h
            · cases h
          · cases h
        · cases h
      · cases h
    | [], hvs => exact hvs.elim
    | _ :: _ :: _, hvs => exact hvs.2.elim
  · -- clear of a part
    rename_i id gen off len
    match xs, hvs with
    | [u], hvs =>
      split at h
      · rename_i T hts
        have hta : c.argTypes = #[T] := by apply Array.ext'; simpa using hts
        split at h
        · rename_i e t g m ex ys hlk
          split at h
          · rename_i hT
            split at h
            · rename_i he
              split at h
              · rename_i hg
                split at h
                · rename_i hz
                  simp at h
                  obtain ⟨rfl, rfl⟩ := h
                  subst hg
                  exact exec (s := Builtin.clear_ #[T] o.type #[u]) (fun _ => by rw [hta]; rfl) (clear_part ok.tt hk hh hl hT he hz hlk hvs.1.1)
                · cases h
              · cases h
            · cases h
          · cases h
        · cases h
      · cases h
    | [], hvs => exact hvs.elim
    | _ :: _ :: _, hvs => exact hvs.2.elim
  · -- max
    rename_i k a1 k' b1
    match xs, hvs with
    | [ux, uy], hvs =>
      split at h
      · rename_i hkk
        subst hkk
        simp at h
        obtain ⟨rfl, rfl⟩ := h
        refine exec (fun _ => rfl) ?_
        rw [show ux = _ from hvs.1.1, show uy = _ from hvs.2.1.1]
        exact (max_gives ..).does hk hh
      · cases h
    | [], hvs => exact hvs.elim
    | [_], hvs => exact hvs.2.elim
    | _ :: _ :: _ :: _, hvs => exact hvs.2.2.elim
  · -- min
    rename_i k a1 k' b1
    match xs, hvs with
    | [ux, uy], hvs =>
      split at h
      · rename_i hkk
        subst hkk
        simp at h
        obtain ⟨rfl, rfl⟩ := h
        refine exec (fun _ => rfl) ?_
        rw [show ux = _ from hvs.1.1, show uy = _ from hvs.2.1.1]
        exact (min_gives ..).does hk hh
      · cases h
    | [], hvs => exact hvs.elim
    | [_], hvs => exact hvs.2.elim
    | _ :: _ :: _ :: _, hvs => exact hvs.2.2.elim
  · cases h
end
end Go.Proofs.Ytgnnljpdcafdkaa.Ev

/- One operation, joined. -/
namespace Go.Proofs.Ytgnnljpdcafdkaa.Ev
open Go

section
variable {P : Program} {S : Sta} {G : Gh} {w : World} {own : Nat → Option Nat} {H : List Obj} {look : Nat → Obj} {E : Env}

theorem op_next (ok : EnvOk P E) (hF : S.FrOk) (hk : Keeps S.O S.w0 w) (hh : Hs S G own H w) (hl : LookOk look H) {base : Nat} (hf : ∀ j, base ≤ j → j < base + 32 → hget H j = .free) {F : List LV} {a : Act} (hev : ∀ x, VV S G (opv F x) (a.eval x)) {o : Oper}
    {v : LV} {us : List (Nat × Obj)} (h : aopK E look base (opv F) o.op (fun v us => some (v, us)) = some (v, us)) : Next1 P S G H o a w v us := by
  have hf0 : hget H base = .free := hf base (Nat.le_refl _) (by omega)
  have same : ∀ {u : Value} {v : LV}, execOp a.eval o = pure (.value u) → VV S G v u → Next1 P S G H o a w v [] := fun hx hv K Q hK => wp_val (by rw [hx]; rfl) (hK _ w G own (Le.refl G) hv hk hh)
  obtain ⟨dst, op, ty, pos, after, guard⟩ := o
  cases op with
  | move x =>
    simp [aopK] at h
    obtain ⟨rfl, rfl⟩ := h
    exact same rfl (hev x)
  | assign x =>
    simp [aopK] at h
    obtain ⟨rfl, rfl⟩ := h
    exact same rfl (hev x)
  | pick c x y =>
    simp only [aopK] at h
    rw [pickK_nat] at h
    obtain ⟨v', h1, h2⟩ := Option.bind_eq_some_iff.1 h
    simp at h2
    obtain ⟨rfl, rfl⟩ := h2
    obtain ⟨t, e, hv⟩ := pickK_gives (hev c) (hev x) (hev y) h1
    intro K Q hK
    refine wp_val (u := if t = true then a.eval x else a.eval y) ?_ (hK _ w G own (Le.refl G) hv hk hh)
    simp [execOp, e, asBool]
  | alloc T =>
    simp only [aopK] at h
    split at h
    · rename_i t hT
      simp at h
      obtain ⟨rfl, rfl⟩ := h
      exact next_does rfl (alloc_does ok.tt hk hh hf0 hT)
    · cases h
  | box T x =>
    simp only [aopK] at h
    split at h
    · rename_i ag cs hx
      split at h
      · rename_i hs
        simp at h
        obtain ⟨rfl, rfl⟩ := h
        have hv := hev x
        rw [hx] at hv
        exact next_does rfl (box_does hF hk hh hf0 hs hv)
      · cases h
    · cases h
  | build T parts =>
    simp only [aopK] at h
    split at h
    · rename_i t hT
      split at h
      · rename_i ps hps
        simp at h
        obtain ⟨rfl, rfl⟩ := h
        obtain ⟨fs, hfs⟩ := ok.tt.st _ _ hT
        exact next_gives hk hh rfl (build_does ok.tt hF hT hfs hev rfl hps)
      · cases h
    · cases h
  | buildSlice T n parts =>
    simp only [aopK] at h
    split at h
    · rename_i e hT
      split at h
      · rename_i t he
        split at h
        · rename_i xs ids hel
          split at h
          · rename_i hnd
            split at h
            · rename_i hlen
              split at h
              · rename_i hsz
                simp at h
                obtain ⟨rfl, rfl⟩ := h
                rw [llen_eq] at hlen
                rw [ndup_iff] at hnd
                have hpv := lvP_pv hev parts.toList
                have hps : parts.map (fun (i, x) => (i, a.eval x)) = (parts.toList.map fun (i, x) => (i, a.eval x)).toArray := by
                  apply Array.ext'; simp
                rw [Nat.mul_add] at hsz
                refine next_does (s := Instr.buildSlice T n (parts.toList.map fun (i, x) => (i, a.eval x)).toArray) (by rw [← hps]; rfl) ?_
                exact buildSlice_does ok.tt hF hk hh hl hf0 hT he hel hpv hnd (by rw [lvP_len]; exact hlen) (by omega) (by omega)
              · cases h
            · cases h
          · cases h
        · cases h
      · cases h
    · cases h
  | load T x =>
    simp only [aopK] at h
    split at h
    · rename_i t c hT hc
      split at h
      · rename_i v' hv
        simp at h
        obtain ⟨rfl, rfl⟩ := h
        exact next_gives hk hh rfl (load_gives ok.tt hF hh hk hl hT (one_of hc (hev x)) hv)
      · cases h
    · cases h
  | store T x y =>
    simp only [aopK] at h
    split at h
    · rename_i t c hT hc
      rw [storeK_nat] at h
      obtain ⟨us', h1, h2⟩ := Option.bind_eq_some_iff.1 h
      simp at h2
      obtain ⟨rfl, rfl⟩ := h2
      obtain ⟨w', G', own', h3, h4, h5, h6⟩ := store_does ok.tt hF hk hh hl hT (one_of hc (hev x)) (hev y) h1
      intro K Q hK
      unfold Oper.wp
      have hx : (execOp a.eval ⟨dst, .store T x y, ty, pos, after, guard⟩).run P w = .ok .skip w' := by
        simp [execOp, h3]
      rw [hx, Oper.upon_skip]
      exact hK undef w' G' own' h4 ⟨rfl, trivial⟩ h5 h6
    · cases h
  | nilCheck x =>
    simp only [aopK] at h
    have hv := hev x
    split at h
    · rename_i id gen idx off hx
      simp at h
      obtain ⟨rfl, rfl⟩ := h
      rw [hx] at hv
      obtain ⟨q, b, h1, h2, h3, h4⟩ := hv.1
      refine same (u := a.eval x) ?_ hv
      simp only [execOp]
      rw [h4]
    · rename_i t y off hx
      simp at h
      obtain ⟨rfl, rfl⟩ := h
      rw [hx] at hv
      obtain ⟨ad, cs, h1, h2, h3, h4, h5⟩ := hv.1
      refine same (u := a.eval x) ?_ hv
      simp only [execOp]
      rw [h5]
    · cases h
  | binOp b T x y T2 =>
    simp only [aopK] at h
    rw [binK_nat] at h
    obtain ⟨c, h1, h2⟩ := Option.bind_eq_some_iff.1 h
    simp at h2
    obtain ⟨rfl, rfl⟩ := h2
    exact next_gives hk hh rfl (binK_gives ok.tt (hev x) (hev y) h1)
  | unOp b T x =>
    simp only [aopK] at h
    rw [unK_nat] at h
    obtain ⟨c, h1, h2⟩ := Option.bind_eq_some_iff.1 h
    simp at h2
    obtain ⟨rfl, rfl⟩ := h2
    exact next_gives hk hh rfl (unK_gives (hev x) h1)
  | convert Sx T x =>
    simp only [aopK] at h
    have hv := hev x
    split at h
    · rename_i k0 k k' n h1 h2 h3
      simp at h
      obtain ⟨rfl, rfl⟩ := h
      refine next_gives hk hh rfl ?_
      rw [int_of h3 hv]
      exact conv_int ok.tt h1 h2 n
    · rename_i s h1 h2 h3
      simp at h
      obtain ⟨rfl, rfl⟩ := h
      refine next_gives hk hh rfl ?_
      rw [str_of h3 hv]
      exact conv_str ok.tt h1 h2 s
    · rename_i e c h1 h2 h3
      split at h
      · rename_i xs hr
        simp at h
        obtain ⟨rfl, rfl⟩ := h
        rw [h3] at hv
        obtain ⟨m1, m2⟩ := ok.tt.slice _ _ _ h1
        exact next_gives hk hh rfl (conv_bytes ok.tt hF hk hh hl h1 m1 m2 h2 hv.1 hr)
      · cases h
    · cases h
  | makeFunc fn first caps =>
    simp only [aopK] at h
    split at h
    · rename_i g hfirst
      split at h
      · rename_i ids hids
        simp at h
        obtain ⟨rfl, rfl⟩ := h
        have hcap := capIds_caps (lvs_vf hev caps.toList) hids
        have hf1 : first = #[] := by simpa using hfirst
        refine next_gives hk hh rfl ⟨.func (.func g) #[] (caps.map a.eval), ?_, ⟨_, ?_, hcap⟩, trivial⟩
        · simp [Instr.makeFunc, hf1]
        · congr 1
          apply Array.ext'; simp
      · cases h
    · cases h
  | makeSlice T n m =>
    simp only [aopK] at h
    split at h
    · rename_i e ka x kb y hT hn hm
      split at h
      · rename_i t he
        split at h
        · rename_i hz
          split at h
          · rename_i hab
            split at h
            · rename_i h0
              split at h
              · rename_i hlim
                split at h
                · rename_i hmax
                  simp at h
                  obtain ⟨rfl, rfl⟩ := h
                  subst hab
                  refine next_does rfl ?_
                  rw [int_of hn (hev n), int_of hm (hev m)]
                  exact make_does ok.tt hk hh hf0 hT he hz h0 hlim hmax
                · cases h
              · cases h
            · cases h
          · cases h
        · cases h
      · cases h
    · cases h
  | slice T x lo hi mx =>
    simp only [aopK] at h
    split at h
    · rename_i s l hh' h1 h2 h3
      split at h
      · rename_i hT
        rw [sliceS_nat] at h
        obtain ⟨c, k1, k2⟩ := Option.bind_eq_some_iff.1 h
        simp at k2
        obtain ⟨rfl, rfl⟩ := k2
        have hv := one_of h1 (hev x)
        refine next_gives hk hh rfl ?_
        rw [show a.eval x = _ from hv]
        exact sliceS_gives (ok.tt.str _ hT) (bndOf hev h2) (bndOf hev h3) k1
      · cases h
    · rename_i c l hh' _ h1 h2 h3
      split at h
      · rename_i n hz
        rw [sliceK_nat] at h
        obtain ⟨c', k1, k2⟩ := Option.bind_eq_some_iff.1 h
        simp at k2
        obtain ⟨rfl, rfl⟩ := k2
        exact next_gives hk hh rfl (slice_gives ok.tt hh hl hz (bndOf hev h2) (bndOf hev h3) (one_of h1 (hev x)) k1)
      · cases h
    · rename_i c l hh' m h1 h2 h3
      split at h
      · rename_i n j i hz hm
        rw [slice3_nat] at h
        obtain ⟨c1, k1, h⟩ := Option.bind_eq_some_iff.1 h
        obtain ⟨c2, k2, h⟩ := Option.bind_eq_some_iff.1 h
        obtain ⟨c3, k3, h⟩ := Option.bind_eq_some_iff.1 h
        split at h
        · rename_i hij
          simp at h
          obtain ⟨rfl, rfl⟩ := h
          have bm : BndOf (some (a.eval m)) (some j) := by
            have := bndOf (x := some m) hev (l := some j) (by simpa using hm)
            simpa using this
          cases hi with
          | none => simp [intOf?] at h3
          | some hop =>
            exact next_gives hk hh rfl (slice3_gives (c2 := c) ok.tt hh hl hz (bndOf hev h2) (bndOf (x := some hop) hev h3) bm (one_of h1 (hev x)) k1 k3 hij)
        · cases h
      · cases h
    · cases h
  | fieldAddr T x f =>
    simp only [aopK] at h
    split at h
    · rename_i o t c hfl hc
      split at h
      · cases h
      · rename_i hz
        split at h
        · rename_i c' hc'
          simp at h
          obtain ⟨rfl, rfl⟩ := h
          exact next_gives hk hh rfl (fieldAddr_gives ok.tt hfl hz (one_of hc (hev x)) hc')
        · cases h
    · cases h
  | field T x f =>
    simp only [aopK] at h
    split at h
    · rename_i o t cs hfl hx
      split at h
      · rename_i v' hv
        simp at h
        obtain ⟨rfl, rfl⟩ := h
        have hv2 := hev x
        rw [hx] at hv2
        exact next_gives hk hh rfl (field_gives ok.tt hfl hv2 hv)
      · cases h
    · cases h
  | indexAddr T x i =>
    simp only [aopK] at h
    split at h
    · rename_i z c k n hz hc hn
      rw [idxK_nat] at h
      obtain ⟨c', k1, k2⟩ := Option.bind_eq_some_iff.1 h
      simp at k2
      obtain ⟨rfl, rfl⟩ := k2
      obtain ⟨e, t, he, ht, rfl⟩ := elemSz_some hz
      refine next_gives hk hh rfl ?_
      rw [int_of hn (hev i)]
      exact idx_gives ok.tt hF hh hl he ht (one_of hc (hev x)) k1
    · cases h
  | index T x i =>
    simp only [aopK] at h
    split at h
    · rename_i s k n hT hs hn
      split at h
      · rename_i h0
        split at h
        · rename_i h1
          simp at h
          obtain ⟨rfl, rfl⟩ := h
          refine next_gives hk hh rfl ?_
          rw [int_of hn (hev i), str_of hs (hev x)]
          exact index_gives (ok.tt.str _ hT) h0 h1
        · cases h
      · cases h
    · cases h
  | extract x i =>
    simp only [aopK] at h
    split at h
    · rename_i vs hx
      split at h
      · rename_i ag cs hn
        simp at h
        obtain ⟨rfl, rfl⟩ := h
        have hv := hev x
        rw [hx] at hv
        exact next_gives hk hh rfl (extract_gives hv hn)
      · cases h
    · cases h
  | call c =>
    simp only [aopK] at h
    split at h
    · rename_i b hc
      exact op_builtin ok hF hk hh hl hf0 hev rfl hc h
    · rename_i f hc
      exact op_call ok hF hk hh hl hf hev rfl hc h
    · cases h
  | _ => simp [aopK] at h
end
end Go.Proofs.Ytgnnljpdcafdkaa.Ev

/- Regions in the order of the text. -/
namespace Go.Proofs.Ytgnnljpdcafdkaa.Ev
open Go

theorem dstOf_eq : ∀ (l : List Oper) (j : Nat), dstOf l j = (l[j]?).bind (·.dst)
  | [], _ => by simp [dstOf]
  | o :: r, 0 => by simp [dstOf]
  | o :: r, j + 1 => by simp [dstOf, dstOf_eq r j]
theorem fput_fget : ∀ (F : List LV) (d : Nat), fput F d (fget F d) = F
  | [], _ => rfl
  | _ :: _, 0 => rfl
  | x :: r, d + 1 => by simp [fput, fget, fput_fget r d]

section
variable {P : Program} {S : Sta} {G : Gh} {w : World} {own : Nat → Option Nat} {H : List Obj} {E : Env} {R : Type}

theorem yielded_bool {F : List LV} {a : Act} (hv : VF S G F a.tmps.toList) {all : List Oper} {j d : Nat} (hd : dstOf all j = some d) {b : Bool} (h : fget F d = .v false [.bool b]) : yielded all.toArray a.tmps j = some b := by
  have h1 := hv.get d
  rw [h] at h1
  have h2 : a.tmps.toList.getD d undef = .bool b := h1.1
  have h3 : a.tmps[d]? = some (.bool b) := by
    rw [List.getD_eq_getElem?_getD, Array.getElem?_toList] at h2
    cases hx : a.tmps[d]? with
    | none => rw [hx] at h2; simp [undef] at h2
    | some x => rw [hx] at h2; simp at h2; rw [h2]
  unfold yielded
  rw [dstOf_eq] at hd
  have : (all.toArray[j]?).bind (·.dst) = some d := by simpa using hd
  rw [this]
  simp [h3]
theorem yielded_undef {F : List LV} {a : Act} (hv : VF S G F a.tmps.toList) {all : List Oper} {j d : Nat} (hd : dstOf all j = some d) (h : fget F d = .v false [.undef]) : yielded all.toArray a.tmps j = none := by
  have h1 := hv.get d
  rw [h] at h1
  have h2 : a.tmps.toList.getD d undef = undef := h1.1
  unfold yielded
  rw [dstOf_eq] at hd
  have : (all.toArray[j]?).bind (·.dst) = some d := by simpa using hd
  rw [this]
  rw [List.getD_eq_getElem?_getD, Array.getElem?_toList] at h2
  cases hx : a.tmps[d]? with
  | none => simp [hx]
  | some x => rw [hx] at h2; simp at h2; simp [hx, h2, undef]

theorem guardK_spec {all : List Oper} {o : Oper} {st : St} {yes no : St → Option R} {r : R} (h : guardK all o st yes no = some r) {a : Act} (hv : VF S G st.F a.tmps.toList) :
    (Region.wanted o (yielded all.toArray a.tmps) = true ∧ yes st = some r) ∨ (Region.wanted o (yielded all.toArray a.tmps) = false ∧ no st = some r) := by
  unfold guardK at h
  unfold Region.wanted
  split at h
  · rename_i hg; rw [hg]; exact .inl ⟨rfl, h⟩
  · rename_i j want hg
    rw [hg]
    split at h
    · rename_i d hd
      split at h
      · rename_i b hb
        have hy := yielded_bool hv hd hb
        have hF : (⟨fput st.F d (.c (.bool b)), st.H, st.pins⟩ : St) = st := by
          have := fput_fget st.F d
          rw [hb] at this
          rw [this]
        simp only [hy]
        cases b <;> cases want <;> simp_all
      · rename_i hb
        have hy := yielded_undef hv hd hb
        simp only [hy]
        exact .inr ⟨rfl, h⟩
      · cases h
    · cases h

/-- functions that are called in place -/
def IcOk (P : Program) (S : Sta) (ic : FuncId → List LV → List Obj → (LV → List Obj → Option R) → Option R) : Prop :=
  ∀ (g : FuncId) (as : List LV) (H : List Obj) (K : LV → List Obj → Option R) (r : R), ic g as H K = some r → ∀ (G : Gh) (own : Nat → Option Nat) (w : World) (vals : List Value), Keeps S.O S.w0 w → Hs S G own H w → VF S G as vals →
    Callable P g ∧ Calls P g vals.toArray w fun e w' => ∃ u v H' G' own', e = .returned u ∧ Le G G' ∧ VV S G' v u ∧ Keeps S.O S.w0 w' ∧ Hs S G' own' H' w' ∧ K v H' = some r

theorem put_defers (a : Act) (d : Option Nat) (v : Value) : (a.put d v).defers = a.defers := by cases d <;> rfl

theorem Sim.put {st : St} {pv : List Value} {a : Act} (h : Sim S G st pv a w) {G' : Gh} {w' : World} {own' : Nat → Option Nat} (hle : Le G G') {d : Option Nat} {v : LV} {u : Value} (hv : VV S G' v u) (hk : Keeps S.O S.w0 w') {H' : List Obj} (hh : Hs S G' own' H' w') :
    Sim S G' ⟨putDst st.F d v, H', st.pins⟩ pv (a.put d u) w' :=
  ⟨VF.dst d (h.fr.le hle) hv, by rw [put_defers]; exact h.df, h.pins.le hle, hk, own', hh⟩

theorem stepK_some {o : Op} {st : St} {base : Nat} {K : LV → List (Nat × Obj) → Option R} {r : R} (h : stepK E o st base K = some r) :
    ∃ v us, aopK E (rst (hget st.H) (tids (opv st.F) (hget st.H) o)) base (opv st.F) o (fun v us => some (v, us)) = some (v, us) ∧ K v us = some r := by
  unfold stepK at h
  rw [aopK_nat] at h
  obtain ⟨⟨v, us⟩, h1, h2⟩ := Option.bind_eq_some_iff.1 h
  exact ⟨v, us, h1, h2⟩

theorem aops_sound (ok : EnvOk P E) (hF : S.FrOk) {f : FuncId} {ic : FuncId → List LV → List Obj → (LV → List Obj → Option R) → Option R} (hic : IcOk P S ic) {all : Array Oper} {K : St → Option R} {r : R} {Q : Exit → Act → World → Prop} {pv : List Value} :
    ∀ (ops : List Oper) (n : Nat), all.toList.drop n = ops → ∀ {st : St} {G : Gh} {a : Act} {w : World}, Sim S G st pv a w → aops E f ic all.toList ops st K = some r →
      (∀ st' G' a' w', Le G G' → Sim S G' st' pv a' w' → K st' = some r → Q .normal a' w') → wpOps P all Q (List.range' n ops.length) a w
  | [], n, _, st, G, a, w, hs, h, hQ => hQ st G a w (Le.refl G) hs h
  | o :: rest, n, hd, st, G, a, w, hs, h, hQ => by
    have hon : all[n]? = some o := by
      have := congrArg (·[0]?) hd
      simpa using this
    have hd' : all.toList.drop (n + 1) = rest := by
      have := congrArg (List.drop 1) hd
      rw [List.drop_drop] at this
      simpa using this
    rw [List.length_cons, List.range'_succ, wpOps_cons]
    unfold wpOp
    simp only [hon]
    unfold aops at h
    rcases guardK_spec h hs.fr with ⟨hw, h1⟩ | ⟨hw, h1⟩
    · rw [Array.toArray_toList] at hw
      rw [if_pos hw]
      refine .inl ?_
      obtain ⟨own, hh⟩ := hs.hp
      split at h1
      · rename_i g as hin
        unfold inlOf at hin
        split at hin
        · rename_i c hop
          split at hin
          · rename_i x hc
            split at hin
            · rename_i g' hx
              split at hin
              · simp at hin
                obtain ⟨rfl, rfl⟩ := hin
                have hv := hs.fr.eval x
                rw [hx] at hv
                obtain ⟨vs, e1, e2⟩ := hv.1
                have : vs = [] := by
                  cases vs with
                  | nil => rfl
                  | cons _ _ => exact e2.elim
                subst this
                obtain ⟨hcl, hC⟩ := hic _ _ _ _ _ h1 G own w (c.args.toList.map a.eval) hs.kp hh (lvs_vf (fun x => hs.fr.eval x) _)
                have hx2 : (execOp a.eval o).run P w = .ok (.enter g' (c.args.toList.map a.eval).toArray) w := by
                  unfold execOp
                  rw [hop]
                  have := run_callFunc hcl (c.args.toList.map a.eval).toArray w
                  simp only [Sem.run_bind, resolve, hc, e1, Deferred.ofValue, Sem.run_pure, Result.andThen_ok, invoke]
                  rw [← this]
                  congr 2
                  apply Array.ext'
                  simp
                unfold Oper.wp
                rw [hx2, Oper.upon_enter]
                refine hC.mono ?_
                rintro e w' ⟨u, v, H', G', own', rfl, hle, hv', hk', hh', hK'⟩
                exact aops_sound ok hF hic rest (n + 1) hd' (hs.put hle hv' hk' hh') hK' fun st' G'' a' w'' hle' hs' hK'' => hQ st' G'' a' w'' (hle.trans hle') hs' hK''
              · cases hin
            · cases hin
          · cases hin
        · cases hin
      · obtain ⟨v, us, h2, h3⟩ := stepK_some h1
        refine op_next ok hF hs.kp hh (LookOk.rst st.H _) (fun j hj _ => hget_big st.H j hj) (fun x => hs.fr.eval x) h2 _ _ ?_
        intro u w' G' own' hle hv hk hh'
        exact aops_sound ok hF hic rest (n + 1) hd' (hs.put hle hv hk hh') h3 fun st' G'' a' w'' hle' hs' hK'' => hQ st' G'' a' w'' (hle.trans hle') hs' hK''
    · rw [Array.toArray_toList] at hw
      rw [hw]
      obtain ⟨own, hh⟩ := hs.hp
      exact aops_sound ok hF hic rest (n + 1) hd' (hs.put (u := undef) (Le.refl G) (show VV S G (.c .undef) undef from ⟨rfl, trivial⟩) hs.kp hh) h1 hQ

theorem region_text (ok : EnvOk P E) (hF : S.FrOk) {f : FuncId} {ic : FuncId → List LV → List Obj → (LV → List Obj → Option R) → Option R} (hic : IcOk P S ic) {id : Nat} {all : Array Oper} {K : St → Option R} {r : R} {Q : Exit → Act → World → Prop} {pv : List Value} {st : St} {a : Act}
    (hs : Sim S G st pv a w) (h : aops E f ic all.toList all.toList st K = some r) (hQ : ∀ st' G' a' w', Le G G' → Sim S G' st' pv a' w' → K st' = some r → Q .normal a' w') : (Code.region id all false).wp P Q a w := by
  refine wp_region ?_
  have := aops_sound ok hF hic (all := all) (Q := Q) all.toList 0 rfl hs h hQ
  rw [List.range_eq_range', ← Array.length_toList]
  exact this
end
end Go.Proofs.Ytgnnljpdcafdkaa.Ev
