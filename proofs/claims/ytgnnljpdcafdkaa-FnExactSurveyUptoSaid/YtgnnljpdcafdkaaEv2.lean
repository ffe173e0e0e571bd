/- A part of a proof: an evaluator of the program's functions over plain values, and what it shows. -/
import Derived.Test.YtgnnljpdcafdkaaEv1
import Derived.Laws.BytesString
import Derived.Laws.MakeOwn
import Derived.Great.BuildSlice
set_option linter.unusedVariables false
set_option linter.unusedSimpArgs false
set_option linter.unusedSectionVars false
/- Lengths, indices, cuts, parts of tuples. -/
namespace Go.Proofs.Ytgnnljpdcafdkaa.Ev
open Go

section
variable {P : Program} {S : Sta} {G : Gh} {w : World} {own : Nat → Option Nat} {H : List Obj} {look : Nat → Obj}

theorem SlOf.slice {p : Place} {off len : Nat} {u : Value} (h : SlOf p off len u) : ∃ A c, u = .slice A len c ∧ len ≤ c ∧ (0 < len → ∃ b, p.blk = some b ∧ A = some ⟨b, p.base + off * p.sz, none⟩) := by
  unfold SlOf at h
  split at h
  · rw [h.1, h.2]; exact ⟨_, _, rfl, Nat.le_refl _, fun h => absurd h (Nat.lt_irrefl _)⟩
  · rename_i b hb
    obtain ⟨o, c, rfl, h1, h2, h3, h4⟩ := h
    exact ⟨_, _, rfl, h1, fun hl => ⟨b, hb, by rw [h4 (by omega)]⟩⟩

/-- a place, as its row tells it -/
theorem row_place (hh : Hs S G own H w) {id gen : Nat} {p : Place} (hp : G.φ id gen = some p) {e : TypeId} {t : Ty} {g m : Nat} {ex : Option Nat} {le : Option (Nat × Nat)} {xs : List t.D} (ho : hget H id = .row e t g m ex le xs) (hg : g = gen) :
    p.sz = t.sz ∧ p.len = xs.length ∧ xs.length + ex.getD 0 ≤ p.room := by
  have := hh.obj id
  rw [ho] at this
  obtain ⟨h1, h2, h3, q, h4, h5, h6, hr, h7⟩ := this
  subst hg
  rw [hp] at h4
  obtain rfl : p = q := by simpa using h4
  exact ⟨h5, h6, hr⟩

theorem len_gives {T : TypeId} {e : TypeId} (hT : P.underlying T = some (.slice e)) (hh : Hs S G own H w) (hF : S.FrOk) (hl : LookOk look H) {c c' : Cv} {u : Value} (hc : VC S G c u) (h : lenK look c some = some c') (r : Array TypeId) (hr : r[0]? = some T) (ty : TypeId) :
    Gives P S G (Builtin.len_ r ty #[u]) w (.c c') := by
  have key : ∀ {A : Option Addr} {n k : Nat}, u = .slice A n k → c' = .int .i64 (n : Int) → Gives P S G (Builtin.len_ r ty #[u]) w (.c c') := by
    rintro A n k rfl rfl
    exact ⟨.int .i64 (n : Int), by simp [Builtin.len_, hr, run_underlying hT, Sem.run_bind, goInt], VV_c rfl⟩
  unfold lenK at h
  split at h
  · simp at h; subst h
    exact key (show u = _ from hc) rfl
  · rename_i id gen
    split at h
    · rename_i e t g m ex le xs hlk
      split at h
      · rename_i hg
        simp at h; subst h
        obtain ⟨p, h1, h2⟩ := hc
        obtain ⟨A, k, h3, _⟩ := h2.1.slice
        have := row_place hh h1 (hl.of hlk (by simp)) hg
        rw [this.2.1] at h3
        exact key h3 rfl
      · cases h
    · cases h
  · rename_i id gen off len
    simp at h; subst h
    obtain ⟨p, h1, _, h2⟩ := hc
    obtain ⟨A, k, h3, _⟩ := h2.1.slice
    exact key h3 rfl
  · simp at h; subst h
    obtain ⟨A, k, h3, _⟩ := hc
    exact key h3 rfl
  · simp at h; subst h
    obtain ⟨A, k, h3, _⟩ := hF _ _ _ _ hc
    exact key h3 rfl
  · rename_i id gen md idx off
    split at h
    · rename_i e' t' ys hn
      simp at h; subst h
      obtain ⟨n, p, h1, h2, h3, h4⟩ := hc
      obtain ⟨v, b2, k1, k2, k3, k4⟩ := nest_elem hh hl h3 h4 hn
      rw [h1] at k1
      simp at k1
      obtain ⟨rfl, rfl⟩ := k1
      rcases k2 with ⟨q1, q2, _⟩ | ⟨b, o, c', cur, b3, q1, _⟩
      · simp at q1; subst q2; exact key (A := none) (k := 0) q1 (by simp)
      · simp at q1; exact key q1 rfl
    · cases h
  · cases h

theorem lenS_gives {T : TypeId} (hT : P.underlying T = some .string) {s : ByteArray} (r : Array TypeId) (hr : r[0]? = some T) (ty : TypeId) :
    Gives P S G (Builtin.len_ r ty #[.string s]) w (.c (.int .i64 (s.size : Int))) :=
  ⟨.int .i64 (s.size : Int), by simp [Builtin.len_, hr, run_underlying hT, Sem.run_bind, goInt], VV_c rfl⟩

theorem idx_run {T e : TypeId} {te : Ty} {tt : TT} (ok : TTok P tt) (hT : tt.elem T = some e) (he : tt.shape e = some te) {ad : Addr} {len c : Nat} {k : IntKind} {i : Int} (h0 : 0 ≤ i) (h1 : i < (len : Int)) (w : World) :
    (Instr.indexAt T (.slice (some ad) len c) (.int k i)).run P w = .ok (.pointer (some (ad.add (i.toNat * te.sz)))) w := by
  obtain ⟨j, z, k1, k2, _⟩ := ok.shape _ _ he
  simp [Instr.indexAt, asIntOf, run_underlying (ok.elem _ _ hT), Sem.run_bind, h0, h1, sizeOf, typeInfo, k1, k2]

theorem idx_gives {tt : TT} (ok : TTok P tt) (hF : S.FrOk) (hh : Hs S G own H w) (hl : LookOk look H) {T e : TypeId} {te : Ty} (hT : tt.elem T = some e) (he : tt.shape e = some te) {c c' : Cv} {u : Value} {k : IntKind} {i : Int}
    (hc : VC S G c u) (h : idxK te.sz look c i some = some c') : Gives P S G (Instr.indexAt T u (.int k i)) w (.c c') := by
  unfold idxK at h
  split at h
  · rename_i id gen
    split at h
    · rename_i e' t' g m ex le xs hlk
      split at h
      · rename_i hz
        split at h
        · rename_i hg
          split at h
          · rename_i h0
            split at h
            · rename_i h1
              simp at h; subst h
              obtain ⟨p, p1, p2⟩ := hc
              have hp := row_place hh p1 (hl.of hlk (by simp)) hg
              obtain ⟨A, n, q1, q2, q3⟩ := p2.1.slice
              obtain ⟨b, r1, rfl⟩ := q3 (by omega)
              rw [q1]
              refine ⟨_, idx_run ok hT he h0 (by rw [hp.2.1]; exact h1) w, VV_c ⟨p, b, p1, r1, by omega, ?_⟩⟩
              rw [add_none, hp.1, hz]; simp
            · cases h
          · cases h
        · cases h
      · cases h
    · cases h
  · rename_i id gen off len
    split at h
    · rename_i e' t' g m ex le xs hlk
      split at h
      · rename_i hz
        split at h
        · rename_i hg
          split at h
          · rename_i h0
            split at h
            · rename_i h1
              simp at h; subst h
              obtain ⟨p, p1, p3, p2⟩ := hc
              have hp := row_place hh p1 (hl.of hlk (by simp)) hg
              obtain ⟨A, n, q1, q2, q3⟩ := p2.1.slice
              obtain ⟨b, r1, rfl⟩ := q3 (by omega)
              rw [q1]
              refine ⟨_, idx_run ok hT he h0 h1 w, VV_c ⟨p, b, p1, r1, by omega, ?_⟩⟩
              rw [add_none, hp.1, hz, Nat.add_mul]; simp [Nat.add_assoc]
            · cases h
          · cases h
        · cases h
      · cases h
    · cases h
  · rename_i e' t xs
    split at h
    · rename_i hz
      split at h
      · rename_i h0
        split at h
        · rename_i h1
          simp at h; subst h
          obtain ⟨A, n, q1, q2, q3, q4⟩ := hc
          obtain ⟨ad, rfl, k1, k2⟩ := q4 (by omega)
          rw [q1]
          obtain ⟨cs, m1, m2, m3⟩ := k2 i.toNat _ (getD_some (d := t.dflt) (by omega))
          exact ⟨_, idx_run ok hT he h0 h1 w, VV_c ⟨ad.add (i.toNat * t.sz), cs, by rw [add_block]; exact k1, m1, m2, fun j v hj => by rw [add_add]; exact m3 j v hj, by rw [hz]; simp [Addr.add]⟩⟩
        · cases h
      · cases h
    · cases h
  · rename_i e' t xs
    split at h
    · rename_i hz
      split at h
      · rename_i h0
        split at h
        · rename_i h1
          simp at h; subst h
          obtain ⟨A, n, q1, q2, q3, q4⟩ := hF _ _ _ _ hc
          obtain ⟨ad, rfl, k1, k2⟩ := q4 (by omega)
          rw [q1]
          obtain ⟨cs, m1, m2, m3⟩ := k2 i.toNat _ (getD_some (d := t.dflt) (by omega))
          exact ⟨_, idx_run ok hT he h0 h1 w, VV_c ⟨ad.add (i.toNat * t.sz), cs, by rw [add_block]; exact k1, m1, m2, fun j v hj => by rw [add_add]; exact m3 j v hj, by rw [hz]; simp [Addr.add]⟩⟩
        · cases h
      · cases h
    · cases h
  · rename_i id gen md idx off
    split at h
    · rename_i e' t' ys hn
      split at h
      · rename_i hz
        split at h
        · rename_i h0
          split at h
          · rename_i h1
            simp at h; subst h
            obtain ⟨n, p, a1, a2, a3, a4⟩ := hc
            obtain ⟨v, b2, k1, k2, k3, k4⟩ := nest_elem hh hl a3 a4 hn
            have a1' := a1
            rw [a1] at k1
            simp at k1
            obtain ⟨rfl, rfl⟩ := k1
            rcases k2 with ⟨q1, q2, _⟩ | ⟨b, o, c', cur, b3, q1, _⟩
            · subst q2; simp at h1; omega
            · simp at q1; subst q1
              exact ⟨_, idx_run ok hT he h0 h1 w, VV_c ⟨_, _, _, _, p, a1', by omega, a3, a4, by rw [hz]; simp⟩⟩
          · cases h
        · cases h
      · cases h
    · cases h
  · cases h

theorem index_gives {T : TypeId} (hT : P.underlying T = some .string) {s : ByteArray} {k : IntKind} {i : Int} (h0 : 0 ≤ i) (h1 : i < (s.size : Int)) : Gives P S G (Instr.index T (.string s) (.int k i)) w (.c (.int .u8 (bt s i))) := by
  have hs : i.toNat < s.size := by omega
  have hb : s[i.toNat]? = some (s.data.getD i.toNat 0) := by
    rw [getElem?_pos s i.toNat hs]
    have : i.toNat < s.data.size := hs
    simp only [Array.getD, dif_pos this]
    rfl
  exact ⟨.int .u8 (bt s i), by simp [Instr.index, asIntOf, run_underlying hT, Sem.run_bind, h0, hb, bt], VV_c rfl⟩
end
end Go.Proofs.Ytgnnljpdcafdkaa.Ev

/- Cuts out of slices and strings. -/
namespace Go.Proofs.Ytgnnljpdcafdkaa.Ev
open Go

/-- bounds as they come out -/
def SlB (lo hi : Option Int) (len cap l h : Nat) : Prop :=
  (match lo with | none => l = 0 | some i => 0 ≤ i ∧ l = i.toNat) ∧ (match hi with | none => h = len | some i => 0 ≤ i ∧ h = i.toNat) ∧ l ≤ h ∧ h ≤ cap

theorem SlB.cap {lo hi : Option Int} {len cap cap' l h : Nat} (b : SlB lo hi len cap l h) (k : h ≤ cap') : SlB lo hi len cap' l h := ⟨b.1, b.2.1, b.2.2.1, k⟩
theorem SlB.len {lo : Option Int} {i : Int} {len len' cap l h : Nat} (b : SlB lo (some i) len cap l h) : SlB lo (some i) len' cap l h := b

theorem bndK_some {R : Type} {n : Nat} {lo hi : Option Int} {K : Nat → Nat → Option R} {r : R} (h : bndK n lo hi K = some r) : ∃ l h', SlB lo hi n n l h' ∧ K l h' = some r := by
  unfold bndK at h
  split at h
  · exact ⟨0, n, ⟨rfl, rfl, by omega, by omega⟩, h⟩
  · split at h
    · split at h
      · exact ⟨_, n, ⟨⟨by assumption, rfl⟩, rfl, by omega, by omega⟩, h⟩
      · cases h
    · cases h
  · split at h
    · split at h
      · exact ⟨0, _, ⟨rfl, ⟨by assumption, rfl⟩, by omega, by omega⟩, h⟩
      · cases h
    · cases h
  · split at h
    · split at h
      · split at h
        · split at h
          · exact ⟨_, _, ⟨⟨by assumption, rfl⟩, ⟨by assumption, rfl⟩, by omega, by omega⟩, h⟩
          · cases h
        · cases h
      · cases h
    · cases h

/-- the machine's own operand of a bound -/
def BndOf : Option Value → Option Int → Prop
  | none, none => True
  | some v, some i => ∃ k, v = .int k i
  | _, _ => False

theorem run_slb {P : Program} {isS : Bool} {len cap l h : Nat} {lo hi : Option Int} {vl vh : Option Value} (bl : BndOf vl lo) (bh : BndOf vh hi) (hlc : len ≤ cap) (b : SlB lo hi len cap l h) (w : World) :
    (Instr.sliceBounds isS len cap vl vh none).run P w = .ok (l, h, cap) w := by
  obtain ⟨b1, b2, b3, b4⟩ := b
  have high : ∀ {v : Value} {i : Int} (y : Nat) (code : BoundsCode), (∃ k, v = .int k i) → 0 ≤ i → i.toNat ≤ y → (Instr.sliceBound v y code).run P w = .ok i.toNat w := by
    rintro v i y code ⟨k, rfl⟩ h0 h1
    have : i ≤ (y : Int) := by omega
    simp [Instr.sliceBound, asIntOf, Sem.run_bind, h0, this]
  match vl, lo, bl, vh, hi, bh with
  | none, none, _, none, none, _ => simp at b1 b2; subst b1 b2; simp [Instr.sliceBounds, Sem.run_bind]
  | some v, some i, hv, none, none, _ => simp at b1 b2; subst b2; simp [Instr.sliceBounds, Sem.run_bind, high _ _ hv b1.1 (b1.2 ▸ b3), b1.2]
  | none, none, _, some u, some j, hu => simp at b1 b2; subst b1; simp [Instr.sliceBounds, Sem.run_bind, high _ _ hu b2.1 (b2.2 ▸ b4), b2.2]
  | some v, some i, hv, some u, some j, hu => simp at b1 b2; simp [Instr.sliceBounds, Sem.run_bind, high _ _ hu b2.1 (b2.2 ▸ b4), high _ _ hv b1.1 (show i.toNat ≤ j.toNat by omega), b2.2, b1.2]

theorem run_slb3 {P : Program} {len cap l h m : Nat} {lo : Option Int} {i j : Int} {vl : Option Value} {vh vm : Value} (bl : BndOf vl lo) (bh : BndOf (some vh) (some i)) (bm : BndOf (some vm) (some j)) (b : SlB lo (some i) len m l h) (hm : 0 ≤ j ∧ m = j.toNat ∧ m ≤ cap) (w : World) :
    (Instr.sliceBounds true len cap vl (some vh) (some vm)).run P w = .ok (l, h, m) w := by
  obtain ⟨b1, b2, b3, b4⟩ := b
  have high : ∀ {v : Value} {i : Int} (y : Nat) (code : BoundsCode), (∃ k, v = .int k i) → 0 ≤ i → i.toNat ≤ y → (Instr.sliceBound v y code).run P w = .ok i.toNat w := by
    rintro v i y code ⟨k, rfl⟩ h0 h1
    have : i ≤ (y : Int) := by omega
    simp [Instr.sliceBound, asIntOf, Sem.run_bind, h0, this]
  simp at b2
  obtain ⟨m0, m1, m2⟩ := hm
  match vl, lo, bl with
  | none, none, _ => simp at b1; subst b1; simp [Instr.sliceBounds, Sem.run_bind, high _ _ bm m0 (m1 ▸ m2), high _ _ bh b2.1 (show i.toNat ≤ j.toNat by omega), b2.2, m1]
  | some v, some i', hv => simp at b1; simp [Instr.sliceBounds, Sem.run_bind, high _ _ bm m0 (m1 ▸ m2), high _ _ bh b2.1 (show i.toNat ≤ j.toNat by omega), high _ _ hv b1.1 (show i'.toNat ≤ i.toNat by omega), b2.2, b1.2, m1]

section
variable {P : Program} {S : Sta} {G : Gh} {w : World} {own : Nat → Option Nat} {H : List Obj} {look : Nat → Obj}

/-- the new header -/
def cutV (n : Nat) (A : Option Addr) (cap l h : Nat) : Value := .slice (if cap = l then A else A.map (·.add (l * n))) (h - l) (cap - l)

theorem SlOf.cut {p : Place} {off len : Nat} {A : Option Addr} {L cap l h n : Nat} (hp : SlOf p off len (.slice A L cap)) (hn : p.sz = n) (hl : l ≤ h) (hc : h ≤ cap) : SlOf p (off + l) (h - l) (cutV n A cap l h) := by
  unfold SlOf at hp ⊢
  split
  · rename_i hb
    rw [hb] at hp
    obtain ⟨h1, h2⟩ := hp
    simp at h1
    obtain ⟨rfl, rfl, rfl⟩ := h1
    have : h = 0 := by omega
    subst this
    have : l = 0 := by omega
    subst this
    exact ⟨by simp [cutV], rfl⟩
  · rename_i b hb
    rw [hb] at hp
    obtain ⟨o, c, h1, h2, h3, h4, h5⟩ := hp
    simp at h1
    obtain ⟨rfl, rfl, rfl⟩ := h1
    by_cases e : cap = l
    · subst e
      have : h = cap := by omega
      subst this
      exact ⟨o, 0, by simp [cutV], by omega, by omega, by omega, fun x => absurd x (Nat.lt_irrefl _)⟩
    · refine ⟨o + l * p.sz, cap - l, ?_, by omega, by omega, ?_, fun _ => ?_⟩
      · simp [cutV, e, add_none, hn]
      · have : (cap - l) * p.sz + l * p.sz = cap * p.sz := by rw [← Nat.add_mul]; congr 1; omega
        omega
      · rw [h5 (by omega), Nat.add_mul]; omega

theorem PartOf.cut {p : Place} {off len : Nat} {A : Option Addr} {L cap l h n : Nat} (hp : PartOf p off len (.slice A L cap)) (hn : p.sz = n) (hl : l ≤ h) (hc : h ≤ cap) : PartOf p (off + l) (h - l) (cutV n A cap l h) := by
  obtain ⟨h1, A', L', c', e, h2⟩ := hp
  simp at e
  exact ⟨h1.cut hn hl hc, _, _, _, rfl, by omega⟩

theorem RdS1.cut {α : Type} {ok : Nat → Prop} {W : World} {Q : α → List Value → Prop} {sz : Nat} {xs ys : List α} {A : Option Addr} {L cap l h : Nat} (hr : RdS1 ok W Q sz xs (.slice A L cap)) (hl : l ≤ h) (hh : h ≤ xs.length) (hy : ys = (xs.take h).drop l) : RdS1 ok W Q sz ys (cutV sz A cap l h) := by
  obtain ⟨A', c, h1, h2, h3, h4⟩ := hr
  simp at h1
  obtain ⟨rfl, rfl, rfl⟩ := h1
  have hlen : ys.length = h - l := by rw [hy]; simp; omega
  refine ⟨_, cap - l, by rw [hlen]; rfl, by omega, by omega, fun h0 => ?_⟩
  obtain ⟨ad, rfl, k1, k2⟩ := h4 (by omega)
  refine ⟨ad.add (l * sz), by rw [if_neg (by omega)]; rfl, by rw [add_block]; exact k1, fun j x hj => ?_⟩
  rw [hy, List.getElem?_drop, List.getElem?_take] at hj
  split at hj
  · obtain ⟨cs, m1, m2, m3⟩ := k2 _ x hj
    refine ⟨cs, m1, m2, fun i v hv => ?_⟩
    rw [add_add, show l * sz + (j * sz + i) = (l + j) * sz + i by rw [Nat.add_mul]; omega]
    exact m3 i v hv
  · cases hj

/-- how a cut stands -/
def CutOk (S : Sta) (G : Gh) (n : Nat) (lo hi : Option Int) (u : Value) (c' : Cv) : Prop :=
  ∃ A len cap l h, u = .slice A len cap ∧ len ≤ cap ∧ SlB lo hi len cap l h ∧ VC S G c' (cutV n A cap l h)

theorem sliceK_cut {n : Nat} (hh : Hs S G own H w) (hl : LookOk look H) {c c' : Cv} {u : Value} {lo hi : Option Int}
    (hc : VC S G c u) (h : sliceK n look c lo hi some = some c') : CutOk S G n lo hi u c' := by
  unfold sliceK at h
  split at h
  · obtain ⟨l, h', b, k⟩ := bndK_some h
    simp at k; subst k
    refine ⟨none, 0, 0, l, h', hc, Nat.le_refl _, b, ?_⟩
    have : h' = 0 := by have := b.2.2.2; omega
    subst this
    have : l = 0 := by have := b.2.2.1; omega
    subst this
    show _ = _
    simp [cutV]
  · rename_i e t xs
    split at h
    · rename_i hz
      subst hz
      have hr := hc
      obtain ⟨A, cp, rfl, q1, q2, q3⟩ := hc
      split at h
      · simp at h; subst h
        exact ⟨A, _, cp, 0, xs.length, rfl, q1, ⟨rfl, rfl, by omega, q1⟩, hr.cut (by omega) (by omega) (by simp)⟩
      · rename_i i
        split at h
        · split at h
          · simp at h; subst h
            exact ⟨A, _, cp, i.toNat, xs.length, rfl, q1, ⟨⟨by assumption, rfl⟩, rfl, by omega, q1⟩, hr.cut (by omega) (by omega) (by simp)⟩
          · cases h
        · cases h
      · rename_i i
        split at h
        · split at h
          · simp at h; subst h
            exact ⟨A, _, cp, 0, i.toNat, rfl, q1, ⟨rfl, ⟨by assumption, rfl⟩, by omega, by omega⟩, hr.cut (by omega) (by omega) (by simp)⟩
          · cases h
        · cases h
      · obtain ⟨l, h', b, k⟩ := bndK_some h
        simp at k; subst k
        have := b.2.2.2
        exact ⟨A, _, cp, l, h', rfl, q1, b.cap (by omega), hr.cut b.2.2.1 b.2.2.2 rfl⟩
    · cases h
  · rename_i id gen
    split at h
    · rename_i e' t g m ex le xs hlk
      split at h
      · rename_i hz
        split at h
        · rename_i hg
          obtain ⟨p, p1, p2, A, L, cp, rfl, p3⟩ := hc
          have hp := row_place hh p1 (hl.of hlk (by simp)) hg
          obtain ⟨A', cp', q1, q2, q3⟩ := p2.slice
          simp at q1
          obtain ⟨rfl, rfl, rfl⟩ := q1
          have hx := hp.2.2
          have p4 : PartOf p 0 p.len (.slice A p.len cp) := ⟨p2, _, _, _, rfl, p3⟩
          split at h
          · simp at h; subst h
            refine ⟨A, _, cp, 0, p.len, rfl, q2, ⟨rfl, rfl, by omega, q2⟩, p, p1, ?_⟩
            have := p4.cut (l := 0) (h := p.len) (hp.1.trans hz) (by omega) q2
            unfold OwnOf
            simpa using this
          · rename_i i
            split at h
            · split at h
              · simp at h; subst h
                refine ⟨A, _, cp, i.toNat, p.len, rfl, q2, ⟨⟨by assumption, rfl⟩, rfl, by omega, q2⟩, p, p1, by omega, ?_⟩
                have := p4.cut (l := i.toNat) (h := p.len) (hp.1.trans hz) (by omega) q2
                rw [hp.2.1] at this ⊢
                simpa using this
              · cases h
            · cases h
          · rename_i hn1 hn2
            split at h
            · obtain ⟨l, h', b, k⟩ := bndK_some h
              simp at k; subst k
              have hb := b.2.2.2
              refine ⟨A, _, cp, l, h', rfl, q2, ?_, p, p1, by have := b.2.2.1; omega, ?_⟩
              · rw [hp.2.1]; exact b.cap (by omega)
              · have := p4.cut (l := l) (h := h') (hp.1.trans hz) b.2.2.1 (by omega)
                simpa using this
            · rename_i m
              obtain ⟨l, h', b, k⟩ := bndK_some h
              simp at k; subst k
              have hb := b.2.2.2
              simp at hx
              refine ⟨A, _, cp, l, h', rfl, q2, ?_, p, p1, ?_⟩
              · cases hi with
                | none =>
                  cases lo with
                  | none => exact (hn1 rfl rfl).elim
                  | some l => exact (hn2 l rfl rfl).elim
                | some j => exact (b.cap (by omega)).len
              · have := p2.cut (l := l) (h := h') (hp.1.trans hz) b.2.2.1 (by omega)
                simpa using this
        · cases h
      · cases h
    · cases h
  · rename_i id gen off len
    split at h
    · rename_i e' t g m ex le xs hlk
      split at h
      · rename_i hz
        split at h
        · rename_i hg
          obtain ⟨p, p1, p3, p2⟩ := hc
          have hp := row_place hh p1 (hl.of hlk (by simp)) hg
          obtain ⟨A, cp, q1, q2, q3⟩ := p2.1.slice
          subst q1
          split at h
          · simp at h; subst h
            refine ⟨A, _, cp, 0, len, rfl, q2, ⟨rfl, rfl, by omega, q2⟩, p, p1, p3, ?_⟩
            have := p2.cut (l := 0) (h := len) (hp.1.trans hz) (by omega) q2
            simpa using this
          · rename_i i
            split at h
            · split at h
              · simp at h; subst h
                refine ⟨A, _, cp, i.toNat, len, rfl, q2, ⟨⟨by assumption, rfl⟩, rfl, by omega, q2⟩, p, p1, by omega, ?_⟩
                exact p2.cut (l := i.toNat) (h := len) (hp.1.trans hz) (by omega) q2
              · cases h
            · cases h
          · obtain ⟨l, h', b, k⟩ := bndK_some h
            simp at k; subst k
            have hb := b.2.2.2
            exact ⟨A, _, cp, l, h', rfl, q2, b.cap (by omega), p, p1, by have := b.2.2.1; omega, p2.cut (hp.1.trans hz) b.2.2.1 (by omega)⟩
        · cases h
      · cases h
    · cases h
  · cases h

theorem elemSz_some {tt : TT} {T : TypeId} {n : Nat} (h : elemSz tt T = some n) : ∃ e t, tt.elem T = some e ∧ tt.shape e = some t ∧ t.sz = n := by
  unfold elemSz at h
  split at h
  · rename_i e he
    split at h
    · rename_i t ht
      exact ⟨e, t, he, ht, by simpa using h⟩
    · cases h
  · cases h

theorem slice_gives {tt : TT} (ok : TTok P tt) (hh : Hs S G own H w) (hl : LookOk look H) {T : TypeId} {n : Nat} (hz : elemSz tt T = some n) {c c' : Cv} {u : Value} {lo hi : Option Int} {vl vh : Option Value} (bl : BndOf vl lo) (bh : BndOf vh hi)
    (hc : VC S G c u) (h : sliceK n look c lo hi some = some c') : Gives P S G (Instr.sliceAt T u vl vh none) w (.c c') := by
  obtain ⟨e, t, he, ht, rfl⟩ := elemSz_some hz
  obtain ⟨A, len, cap, l, h', rfl, k1, k2, k3⟩ := sliceK_cut hh hl hc h
  obtain ⟨j, z, m1, m2, _⟩ := ok.shape _ _ ht
  exact ⟨_, by simp [Instr.sliceAt, Instr.slice, run_underlying (ok.elem _ _ he), Sem.run_bind, run_slb bl bh k1 k2, sizeOf, typeInfo, m1, m2]; rfl, VV_c k3⟩

theorem slice3_gives {tt : TT} (ok : TTok P tt) (hh : Hs S G own H w) (hl : LookOk look H) {T : TypeId} {n : Nat} (hz : elemSz tt T = some n) {c c1 c2 c3 : Cv} {u : Value} {lo : Option Int} {i j : Int} {vl : Option Value} {vh vm : Value} (bl : BndOf vl lo) (bh : BndOf (some vh) (some i)) (bm : BndOf (some vm) (some j))
    (hc : VC S G c u) (h1 : sliceK n look c none (some j) some = some c1) (h3 : sliceK n look c lo (some i) some = some c3) (hij : i ≤ j) :
    Gives P S G (Instr.sliceAt T u vl (some vh) (some vm)) w (.c .junk) := by
  obtain ⟨e, t, he, ht, rfl⟩ := elemSz_some hz
  obtain ⟨A, len, cap, l, h', rfl, k1, k2, k3⟩ := sliceK_cut hh hl hc h3
  obtain ⟨A1, len1, cap1, l1, h1', e1, r1, r2, r3⟩ := sliceK_cut hh hl hc h1
  simp at e1
  obtain ⟨rfl, rfl, rfl⟩ := e1
  obtain ⟨z1, z, m1, m2, _⟩ := ok.shape _ _ ht
  have hi' := k2.2.1
  have hj' := r2.2.1
  simp at hi' hj'
  have b3 : SlB lo (some i) len j.toNat l h' := k2.cap (by omega)
  have b4 := r2.2.2.2
  exact ⟨_, by simp [Instr.sliceAt, Instr.slice, run_underlying (ok.elem _ _ he), Sem.run_bind, run_slb3 bl bh bm b3 ⟨hj'.1, rfl, show j.toNat ≤ cap by omega⟩, sizeOf, typeInfo, m1, m2]; rfl, VV_c trivial⟩

theorem sliceS_gives {T : TypeId} (hT : P.underlying T = some .string) {s : ByteArray} {c' : Cv} {lo hi : Option Int} {vl vh : Option Value} (bl : BndOf vl lo) (bh : BndOf vh hi)
    (h : sliceS s lo hi some = some c') : Gives P S G (Instr.sliceAt T (.string s) vl vh none) w (.c c') := by
  have key : ∀ {l h'}, SlB lo hi s.size s.size l h' → c' = .str (s.extract l h') → Gives P S G (Instr.sliceAt T (.string s) vl vh none) w (.c c') := by
    rintro l h' b rfl
    exact ⟨.string (s.extract l h'), by simp [Instr.sliceAt, Instr.slice, run_underlying hT, Sem.run_bind, run_slb bl bh (Nat.le_refl _) b], VV_c rfl⟩
  unfold sliceS at h
  split at h
  · simp at h; subst h
    refine key (l := 0) (h' := s.size) ⟨rfl, rfl, by omega, by omega⟩ ?_
    simp
  · split at h
    · split at h
      · simp at h; subst h
        exact key (l := _) (h' := s.size) ⟨⟨by assumption, rfl⟩, rfl, by omega, by omega⟩ rfl
      · cases h
    · cases h
  · obtain ⟨l, h', b, k⟩ := bndK_some h
    simp at k; subst k
    exact key b rfl
end
end Go.Proofs.Ytgnnljpdcafdkaa.Ev

/- What is read: out of the local heap, out of what came in. -/
namespace Go.Proofs.Ytgnnljpdcafdkaa.Ev
open Go

theorem RdS1.mono {α : Type} {ok ok' : Nat → Prop} {W W' : World} {Q Q' : α → List Value → Prop} {sz : Nat} {xs : List α} {u : Value} (h1 : ∀ b, ok b → ok' b) (h2 : ∀ b, ok b → W'.heap[b]? = W.heap[b]?) (hQ : ∀ x cs, Q x cs → Q' x cs)
    (h : RdS1 ok W Q sz xs u) : RdS1 ok' W' Q' sz xs u := by
  obtain ⟨A, c, e, k1, k2, k3⟩ := h
  refine ⟨A, c, e, k1, k2, fun h0 => ?_⟩
  obtain ⟨ad, ea, hb, k4⟩ := k3 h0
  refine ⟨ad, ea, h1 _ hb, fun j x hj => ?_⟩
  obtain ⟨cs, m1, m2, m3⟩ := k4 j x hj
  refine ⟨cs, m1, hQ _ _ m2, fun i v hv => ?_⟩
  rw [← m3 i v hv]
  unfold World.cell?
  rw [add_block, h2 _ hb]

theorem RdC.mono {Fr : Frn} {ok ok' : Nat → Prop} {W W' : World} (h1 : ∀ b, ok b → ok' b) (h2 : ∀ b, ok b → W'.heap[b]? = W.heap[b]?) : ∀ {t : Ty} {x : t.D} {cs : List Value}, RdC Fr ok W t x cs → RdC Fr ok' W' t x cs
  | .int _, _, _, h => h
  | .bool, _, _, h => h
  | .str, _, _, h => h
  | .unit, _, _, h => h
  | .pair a b, _, _, ⟨c1, c2, e, k1, k2⟩ => ⟨c1, c2, e, RdC.mono h1 h2 k1, RdC.mono h1 h2 k2⟩
  | .st t, _, _, h => RdC.mono (t := t) h1 h2 h
  | .slice _ t, _, _, ⟨u, e, h⟩ => ⟨u, e, h.mono h1 h2 fun _ _ k => RdC.mono h1 h2 k⟩
  | .rs _ _, _, _, h => h
  | .bx _ _, _, _, h => h

theorem RdC.len {Fr : Frn} {ok : Nat → Prop} {W : World} : ∀ {t : Ty} {x : t.D} {cs : List Value}, RdC Fr ok W t x cs → cs.length = t.sz
  | .int _, _, _, h => by rw [show _ = _ from h]; rfl
  | .bool, _, _, h => by rw [show _ = _ from h]; rfl
  | .str, _, _, h => by rw [show _ = _ from h]; rfl
  | .unit, _, _, h => by rw [show _ = _ from h]; rfl
  | .pair a b, _, _, ⟨c1, c2, e, k1, k2⟩ => by rw [e, List.length_append, RdC.len k1, RdC.len k2]; rfl
  | .st t, _, _, h => RdC.len (t := t) h
  | .slice _ t, _, _, ⟨u, e, h⟩ => by rw [e]; rfl
  | .rs _ _, _, _, ⟨u, e, h⟩ => by rw [e]; rfl
  | .bx _ _, _, _, ⟨u, e⟩ => by rw [e]; rfl

/-- what is handed over may be read -/
theorem OwT.rd {Fr : Frn} {w : World} {ok : Nat → Prop} : ∀ {t : Ty} {x : t.D} {cs : List Value} {bs : List Nat}, OwT Fr w t x cs bs → (∀ b ∈ bs, ok b) → RdC Fr ok w t x cs
  | .int _, _, _, _, h, _ => h.1
  | .bool, _, _, _, h, _ => h.1
  | .str, _, _, _, h, _ => h.1
  | .unit, _, _, _, h, _ => h.1
  | .pair a b, _, _, _, ⟨c1, c2, b1, b2, e1, e2, h1, h2⟩, hb => ⟨c1, c2, e1, OwT.rd h1 fun i hi => hb i (by rw [e2]; simp [hi]), OwT.rd h2 fun i hi => hb i (by rw [e2]; simp [hi])⟩
  | .st t, x, _, _, h, hb => OwT.rd (t := t) h hb
  | .slice e t, xs, _, _, .inl ⟨h1, h2, h3⟩, hb => ⟨_, h1, none, 0, by subst h2; rfl, by subst h2; exact Nat.le_refl _, by omega, fun h => by subst h2; simp at h⟩
  | .slice e t, xs, _, _, .inr ⟨b, o, c, cur, b2, e1, h1, h2, h3, h4, e2, h5⟩, hb => ⟨_, e1, _, c, rfl, h1, h2, fun _ => ⟨_, rfl, hb b (by rw [e2]; simp), fun j x hj => by
      obtain ⟨bi, k1, k2⟩ := h5.get j x hj
      refine ⟨_, k2.len, OwT.rd k2 fun i hi => hb i (by rw [e2]; simp [k1 i hi]), fun i v hv => ?_⟩
      rw [add_none, cell_of h3]
      rw [List.getElem?_take] at hv
      split at hv
      · rw [List.drop_drop, List.getElem?_drop] at hv; rw [← hv]; congr 1; omega
      · cases hv⟩⟩
  | .rs _ _, _, _, _, ⟨u, e1, h, _⟩, _ => ⟨u, e1, h⟩
  | .bx T t, _, _, _, ⟨b, cur, b2, e1, _⟩, _ => ⟨_, e1⟩

section
variable {P : Program} {S : Sta} {G : Gh} {w : World} {own : Nat → Option Nat} {H : List Obj} {look : Nat → Obj} {ok : Nat → Prop}

theorem castL_rfl {t : Ty} (xs : List t.D) : castL (rfl : t = t) xs = xs := rfl

/-- the whole of a row that is named may be read -/
theorem own_rd (hh : Hs S G own H w) {id gen : Nat} {e : TypeId} {t : Ty} {m : Nat} {ex : Option Nat} {le : Option (Nat × Nat)} {xs : List t.D} (ho : hget H id = .row e t gen m ex le xs) {p : Place} (hp : G.φ id gen = some p) {u : Value} (hu : SlOf p 0 p.len u)
    (hok : ∀ b, own b = some id → ok b) : RdS1 ok w (RdC S.Fr ok w t) t.sz xs u := by
  have hob := hh.obj id
  rw [ho] at hob
  obtain ⟨_, _, _, q, h4, h5, h6, hr, h7⟩ := hob
  rw [hp] at h4
  obtain rfl : p = q := by simpa using h4
  unfold SlOf at hu
  cases hb : p.blk with
  | none =>
    rw [hb] at hu h7
    obtain ⟨rfl, _⟩ := h7
    rw [hu.1]
    exact ⟨none, 0, rfl, Nat.le_refl _, by omega, fun h => absurd h (Nat.lt_irrefl _)⟩
  | some b =>
    rw [hb] at hu h7
    obtain ⟨cur, bs, l1, l2, l3, l4, l5, l6, l7⟩ := h7
    obtain ⟨o, c, e1, k1, k2, k3, k4⟩ := hu
    refine ⟨_, c, by rw [e1, h6], by omega, k2, fun h0 => ⟨_, rfl, hok b (l6 b (by simp)), fun j x hj => ?_⟩⟩
    obtain ⟨bi, m1, m2⟩ := l4.get j x hj
    refine ⟨_, m2.len, m2.rd fun i hi => hok i (l6 i (by simp [m1 i hi])), fun i v hv => ?_⟩
    rw [add_none, cell_of l1, k4 (by omega)]
    rw [List.getElem?_take] at hv
    split at hv
    · rw [List.drop_drop, List.getElem?_drop] at hv; rw [← hv]; congr 1; omega
    · cases hv

theorem rdS_rd (hF : S.FrOk) (hk : Keeps S.O S.w0 w) (hh : Hs S G own H w) (hl : LookOk look H) {e : TypeId} {t : Ty} {c : Cv} {xs : List t.D} {u : Value} (hc : VC S G c u) (h : rdS look e t c = some xs)
    (ho : ∀ b, S.ok b → ok b) (hi : ∀ id ∈ c.refs, ∀ b, own b = some id → ok b) : RdS1 ok w (RdC S.Fr ok w t) t.sz xs u := by
  have from0 : ∀ {xs : List t.D}, RdS1 S.ok S.w0 (RdC S.Fr S.ok S.w0 t) t.sz xs u → RdS1 ok w (RdC S.Fr ok w t) t.sz xs u := by
    intro xs h
    have hs : ∀ b, S.ok b → w.heap[b]? = S.w0.heap[b]? := fun b hb => hk.block b hb.1 hb.2
    exact h.mono ho hs fun _ _ k => RdC.mono ho hs k
  unfold rdS at h
  split at h
  · simp at h; subst h
    exact ⟨none, 0, hc, Nat.le_refl _, by omega, fun h => absurd h (Nat.lt_irrefl _)⟩
  · split at h
    · rename_i e1
      obtain ⟨rfl, rfl⟩ := e1
      simp [castL] at h; subst h
      exact from0 hc
    · cases h
  · split at h
    · rename_i e1
      obtain ⟨rfl, rfl⟩ := e1
      simp [castL] at h; subst h
      exact from0 (hF _ _ _ _ hc)
    · cases h
  · rename_i id gen
    split at h
    · rename_i e' t' g m ex ys hlk
      split at h
      · rename_i e1
        obtain ⟨rfl, rfl⟩ := e1
        split at h
        · rename_i hg
          subst hg
          simp [castL] at h; subst h
          obtain ⟨p, p1, p2⟩ := hc
          exact own_rd hh (hl.of hlk (by simp)) p1 p2.1 fun b hb => hi id (by simp [Cv.refs]) b hb
        · cases h
      · cases h
    · cases h
  · rename_i id gen off len
    split at h
    · rename_i e' t' g m ex ys hlk
      split at h
      · rename_i e1
        obtain ⟨rfl, rfl⟩ := e1
        split at h
        · rename_i hg
          subst hg
          simp [castL] at h; subst h
          obtain ⟨p, p1, p3, p2, _⟩ := hc
          have hp := row_place hh p1 (hl.of hlk (by simp)) rfl
          have hob := hh.obj id
          rw [hl.of hlk (by simp)] at hob
          obtain ⟨_, _, _, q, h4, h5, h6, hr, h7⟩ := hob
          rw [p1] at h4
          obtain rfl : p = q := by simpa using h4
          have hlen : ((ys.drop off).take len).length = len := by simp; omega
          unfold SlOf at p2
          cases hb : p.blk with
          | none =>
            rw [hb] at p2 h7
            obtain ⟨rfl, _⟩ := h7
            obtain ⟨p2, rfl⟩ := p2
            rw [p2]
            exact ⟨none, 0, by simp, by simp, by omega, fun h => by simp at h⟩
          | some b =>
            rw [hb] at p2 h7
            obtain ⟨cur, bs, l1, l2, l3, l4, l5, l6, l7⟩ := h7
            obtain ⟨o, c, e1, k1, k2, k3, k4⟩ := p2
            refine ⟨_, c, by rw [e1, hlen], by omega, k2, fun h0 => ⟨_, rfl, hi id (by simp [Cv.refs]) b (l6 b (by simp)), fun j x hj => ?_⟩⟩
            rw [List.getElem?_take] at hj
            split at hj
            · rw [List.getElem?_drop] at hj
              obtain ⟨bi, m1, m2⟩ := l4.get _ x hj
              refine ⟨_, m2.len, m2.rd fun i hi' => hi id (by simp [Cv.refs]) i (l6 i (by simp [m1 i hi'])), fun i v hv => ?_⟩
              rw [add_none, cell_of l1, k4 (by omega)]
              rw [List.getElem?_take] at hv
              split at hv
              · rw [List.drop_drop, List.getElem?_drop] at hv; rw [← hv, h5]; congr 1; rw [Nat.add_mul]; omega
              · cases hv
            · cases hj
        · cases h
      · cases h
    · cases h
  · rename_i id gen md idx off
    split at h
    · rename_i e' t' ys hn
      split at h
      · rename_i e1
        obtain ⟨rfl, rfl⟩ := e1
        simp [castL] at h; subst h
        obtain ⟨n, p, a1, a2, a3, a4⟩ := hc
        obtain ⟨v, b2, k1, k2, k3, k4⟩ := nest_elem hh hl a3 a4 hn
        rw [a1] at k1
        simp at k1
        obtain ⟨rfl, rfl⟩ := k1
        obtain ⟨u', e2, k5⟩ := k2.rd (ok := ok) fun b hb => hi id (by simp [Cv.refs]) b (k3 b hb)
        simp at e2
        rw [e2]
        exact k5
      · cases h
    · cases h
  · cases h

theorem chSl_some {e : TypeId} {t : Ty} {cs r : List Cv} {xs : List t.D} (h : chSl look e t cs = some (xs, r)) : ∃ c, cs = c :: r ∧ rdS look e t c = some xs := by
  unfold chSl at h
  split at h
  · split at h
    · rename_i h'
      simp at h; obtain ⟨rfl, rfl⟩ := h
      exact ⟨_, rfl, h'⟩
    · cases h
  · cases h

theorem crefs_append (a b : List Cv) : crefs (a ++ b) = crefs a ++ crefs b := by
  induction a with
  | nil => rfl
  | cons x r ih => simp [crefs, ih]

theorem rdC_rd (hF : S.FrOk) (hk : Keeps S.O S.w0 w) (hh : Hs S G own H w) (hl : LookOk look H) (ho : ∀ b, S.ok b → ok b) : ∀ {t : Ty} {cs r : List Cv} {x : t.D} {us : List Value}, rdC look t cs = some (x, r) → VL S G cs us →
    (∀ id ∈ crefs cs, ∀ b, own b = some id → ok b) → ∃ c1 u1 u2, cs = c1 ++ r ∧ us = u1 ++ u2 ∧ RdC S.Fr ok w t x u1 ∧ VL S G r u2
  | .int k, cs, r, x, us, h, hv, _ => by
    have e := chInt_some h; subst e
    obtain ⟨u, us', rfl, h1, h2⟩ := VL_cons hv
    exact ⟨[_], [u], us', rfl, rfl, by rw [show u = _ from h1]; rfl, h2⟩
  | .bool, cs, r, x, us, h, hv, _ => by
    have e := chBool_some h; subst e
    obtain ⟨u, us', rfl, h1, h2⟩ := VL_cons hv
    exact ⟨[_], [u], us', rfl, rfl, by rw [show u = _ from h1]; rfl, h2⟩
  | .str, cs, r, x, us, h, hv, _ => by
    have e := chStr_some h; subst e
    obtain ⟨u, us', rfl, h1, h2⟩ := VL_cons hv
    exact ⟨[_], [u], us', rfl, rfl, by rw [show u = _ from h1]; rfl, h2⟩
  | .unit, cs, r, x, us, h, hv, _ => by
    simp [rdC] at h; subst h
    exact ⟨[], [], us, rfl, rfl, rfl, hv⟩
  | .pair a b, cs, r, x, us, h, hv, hi => by
    obtain ⟨r1, h1, h2⟩ := rdC_pair h
    obtain ⟨c1, u1, u2, rfl, rfl, k1, v1⟩ := rdC_rd hF hk hh hl ho h1 hv hi
    obtain ⟨c2, u3, u4, rfl, rfl, k2, v2⟩ := rdC_rd hF hk hh hl ho h2 v1 fun id hid => hi id (by rw [crefs_append]; simp [hid])
    exact ⟨c1 ++ c2, u1 ++ u3, u4, by simp, by simp, ⟨_, _, rfl, k1, k2⟩, v2⟩
  | .st t, cs, r, x, us, h, hv, hi => rdC_rd (t := t) hF hk hh hl ho h hv hi
  | .slice e t, cs, r, x, us, h, hv, hi => by
    obtain ⟨c, rfl, h1⟩ := chSl_some h
    obtain ⟨u, us', rfl, v1, v2⟩ := VL_cons hv
    exact ⟨[c], [u], us', rfl, rfl, ⟨u, rfl, rdS_rd hF hk hh hl v1 h1 ho fun id hid => hi id (by simp [crefs, hid])⟩, v2⟩
  | .rs e t, cs, r, x, us, h, hv, hi => by
    have e := chRs_some h; subst e
    obtain ⟨u, us', rfl, v1, v2⟩ := VL_cons hv
    exact ⟨[_], [u], us', rfl, rfl, ⟨u, rfl, v1⟩, v2⟩
  | .bx T t, cs, r, x, us, h, _, _ => by simp [rdC] at h
end
end Go.Proofs.Ytgnnljpdcafdkaa.Ev

/- Parts, conversions, the greater and the lesser. -/
namespace Go.Proofs.Ytgnnljpdcafdkaa.Ev
open Go

section
variable {P : Program} {S : Sta} {G : Gh} {w : World} {own : Nat → Option Nat} {H : List Obj} {look : Nat → Obj}

theorem VT_nth : ∀ {vs : List (Bool × List Cv)} {us : List Value} {i : Nat} {a : Bool} {cs : List Cv}, VT S G vs us → aopK.tnth vs i = some (a, cs) → ∃ u, us[i]? = some u ∧ VA S G a cs u
  | [], _, i, a, cs, _, h => by simp [aopK.tnth] at h
  | _ :: _, [], _, _, _, h, _ => h.elim
  | v :: r, u :: us, 0, a, cs, ⟨h1, _⟩, h => by simp [aopK.tnth] at h; subst h; exact ⟨u, rfl, h1⟩
  | v :: r, u :: us, i + 1, a, cs, ⟨_, h2⟩, h => by
    obtain ⟨x, k1, k2⟩ := VT_nth (i := i) h2 (by simpa [aopK.tnth] using h)
    exact ⟨x, by simpa using k1, k2⟩

theorem extract_gives {vs : List (Bool × List Cv)} {u : Value} {i : Nat} {a : Bool} {cs : List Cv} (hv : VV S G (.tup vs) u) (h : aopK.tnth vs i = some (a, cs)) : Gives P S G (Instr.extract u i) w (.v a cs) := by
  obtain ⟨us, rfl, h1⟩ := hv
  obtain ⟨x, k1, k2⟩ := VT_nth h1 h
  exact ⟨x, by simp [Instr.extract, k1], k2⟩

theorem field_gives {tt : TT} (ok : TTok P tt) {T : TypeId} {f o : Nat} {t : Ty} {cs : List Cv} {u : Value} {v : LV} (hf : tt.field T f = some (o, t)) (hv : VV S G (.v true cs) u) (h : cutC t (ctake t.sz (cdrop o cs)) = some v) : Gives P S G (Instr.field T u f) w v := by
  obtain ⟨us, rfl, h1⟩ := hv
  obtain ⟨fs, fd, k1, k2, k3, k4⟩ := ok.field T f o t hf
  obtain ⟨i, z, m1, m2, _⟩ := ok.shape _ _ k4
  rw [ctake_eq, cdrop_eq] at h
  obtain ⟨v1, v2⟩ := cutC_gives (ok.top _ _ k4) (VL_take t.sz (VL_drop o h1)) h
  refine ⟨_, ?_, v1⟩
  by_cases hg : t.isAgg = true
  · simp [Instr.field, run_underlying k1, Sem.run_bind, k2, asAgg, part, run_agg ok k4, hg, sizeOf, typeInfo, m1, m2, valOf, k3, Nat.add_sub_cancel_left]
  · have hs := (ok.top _ _ k4).resolve_left hg
    have hg' : t.isAgg = false := by simpa using hg
    obtain ⟨x, r, hd⟩ : ∃ x r, us.drop o = x :: r := by
      cases hd : us.drop o with
      | nil => rw [hd] at v2; simp at v2; omega
      | cons x r => exact ⟨x, r, rfl⟩
    have hx : us[o]? = some x := by
      have := congrArg (·[0]?) hd
      simp [List.getElem?_drop] at this
      exact this
    have e : valOf t ((us.drop o).take t.sz) = x := by
      unfold valOf
      rw [if_neg hg, hd, hs]
      rfl
    rw [e]
    simp [Instr.field, run_underlying k1, Sem.run_bind, k2, asAgg, part, run_agg ok k4, hg', k3, hx]

theorem conv_int {tt : TT} (ok : TTok P tt) {Sx T : TypeId} {k0 k k' : IntKind} (h1 : tt.shape Sx = some (.int k0)) (h2 : tt.shape T = some (.int k)) (n : Int) : Gives P S G (convert Sx T (.int k' n)) w (.c (.int k (k.wrap n))) :=
  ⟨.int k (k.wrap n), by simp [convert, run_underlying (ok.int _ _ h1), run_underlying (ok.int _ _ h2), Sem.run_bind, Conv.intToInt], VV_c rfl⟩
theorem conv_str {tt : TT} (ok : TTok P tt) {Sx T : TypeId} (h1 : tt.shape Sx = some .str) (h2 : tt.shape T = some .str) (s : ByteArray) : Gives P S G (convert Sx T (.string s)) w (.c (.str s)) :=
  ⟨.string s, by simp [convert, run_underlying (ok.str _ h1), run_underlying (ok.str _ h2), Sem.run_bind], VV_c rfl⟩

theorem foldl_push (ns : List Int) : ∀ (r : ByteArray), ns.foldl (fun r n => r.push (UInt8.ofNat n.toNat)) r = ⟨r.data ++ (ns.map fun n => UInt8.ofNat n.toNat).toArray⟩ := by
  induction ns with
  | nil => intro r; simp
  | cons n ns ih =>
    intro r
    rw [List.foldl_cons, ih]
    simp [ByteArray.push]

theorem conv_bytes {tt : TT} (ok : TTok P tt) (hF : S.FrOk) (hk : Keeps S.O S.w0 w) (hh : Hs S G own H w) (hl : LookOk look H) {Sx T e : TypeId} (h1 : tt.shape Sx = some (.slice e (.int .u8))) (h1' : tt.elem Sx = some e) (h1'' : tt.shape e = some (.int .u8)) (h2 : tt.shape T = some .str) {c : Cv} {u : Value} {xs : List Int} (hc : VC S G c u)
    (h : rdS look e (.int .u8) c = some xs) : Gives P S G (convert Sx T u) w (.c (.str (strOf xs))) := by
  obtain ⟨A, cp, rfl, q1, q2, q3⟩ := rdS_rd (ok := fun _ => True) hF hk hh hl hc h (fun _ _ => trivial) (fun _ _ _ _ => trivial)
  refine ⟨.string (strOf xs), ?_, VV_c rfl⟩
  have hcv : ∀ s : Sem Value, (Conv.bytesToString (.slice A xs.length cp)) = s → (convert Sx T (.slice A xs.length cp)).run P w = s.run P w := by
    rintro s rfl
    simp [convert, run_underlying (ok.elem _ _ h1'), run_underlying (ok.str _ h2), run_underlying (ok.int _ _ h1''), Sem.run_bind]
  rw [hcv _ rfl]
  have hempty : xs = [] → strOf xs = ByteArray.empty := by rintro rfl; rfl
  cases A with
  | none =>
    have : xs = [] := by
      by_cases h0 : 0 < xs.length
      · obtain ⟨ad, h, _⟩ := q3 h0; cases h
      · exact List.eq_nil_of_length_eq_zero (by omega)
    subst this
    simp [Conv.bytesToString, strOf]
    first | rfl | trivial
  | some a =>
    have hL : (loadCells a xs.length).run P w = .ok (xs.map (Value.int .u8)).toArray w := by
      have := run_loadCells_list (P := P) w a (xs.map (Value.int .u8)) fun i v hv => by
        rw [List.getElem?_map] at hv
        cases hx : xs[i]? with
        | none => rw [hx] at hv; simp at hv
        | some x =>
          rw [hx] at hv
          simp at hv
          have h0 : 0 < xs.length := by have := (List.getElem?_eq_some_iff.1 hx).1; omega
          obtain ⟨ad, e1, _, k⟩ := q3 h0
          simp at e1; subst e1
          obtain ⟨cs, m1, m2, m3⟩ := k i x hx
          have m2' : cs = [.int .u8 x] := m2
          subst m2'
          have := m3 0 (.int .u8 x) rfl
          simp [Ty.sz] at this
          rw [← hv]
          exact this
      simpa using this
    rw [run_bytesToString w a _ cp xs hL, foldl_push]
    simp [strOf]

theorem max_gives (ats : Array TypeId) (ty : TypeId) (k : IntKind) (a b : Int) : Gives P S G (Builtin.max_ ats ty #[.int k a, .int k b]) w (.c (.int k (if b > a then b else a))) :=
  ⟨.int k (if b > a then b else a), by simp [Builtin.max_, Builtin.max2], VV_c rfl⟩
theorem min_gives (ats : Array TypeId) (ty : TypeId) (k : IntKind) (a b : Int) : Gives P S G (Builtin.min_ ats ty #[.int k a, .int k b]) w (.c (.int k (if b < a then b else a))) :=
  ⟨.int k (if b < a then b else a), by simp [Builtin.min_, Builtin.min2], VV_c rfl⟩

theorem capIds_caps : ∀ {vs : List LV} {us : List Value} {ids : List Nat}, VF S G vs us → aopK.capIds vs = some ids → CapsOk G ids us
  | [], [], ids, _, h => by simp [aopK.capIds] at h; subst h; trivial
  | [], _ :: _, _, h, _ => h.elim
  | _ :: _, [], _, h, _ => h.elim
  | v :: r, u :: us, ids, ⟨h1, h2⟩, h => by
    unfold aopK.capIds at h
    split at h
    · simp at *
    · rename_i c r' e1
      simp at e1
      obtain ⟨rfl, rfl⟩ := e1
      split at h
      · rename_i id q hq
        split at h
        · rename_i is hi
          simp at h; subst h
          have := chPtr_some hq
          simp at this
          obtain ⟨rfl, rfl⟩ := this
          exact ⟨h1.1, capIds_caps h2 hi⟩
        · cases h
      · cases h
    · cases h
end
end Go.Proofs.Ytgnnljpdcafdkaa.Ev

/- How the local heap grows: new objects, objects that are turned, objects that are handed over. -/
namespace Go.Proofs.Ytgnnljpdcafdkaa.Ev
open Go

/-! ### Worlds -/
theorem keeps_setRow {w : World} {b : Nat} {cur cur' : Array Value} {e : TypeId} (h : w.heap[b]? = some (.cells cur e (0, 0))) (hs : cur'.size = cur.size) : Keeps (· = b) w (w.setRow b cur') :=
  ⟨rfl, rfl, rfl, by simp [World.setRow], fun i _ hi => setRow_other w b i cur' hi, fun i e1 c1 h1 => by
    by_cases hi : i = b
    · subst hi
      rw [h] at h1
      simp at h1
      obtain ⟨rfl, rfl⟩ := h1
      exact ⟨cur', setRow_heap w i cur cur' e (0, 0) h, hs⟩
    · exact ⟨c1, by rw [setRow_other w b i cur' hi]; exact h1, rfl⟩⟩
theorem heap_setCell1 {w : World} {b o : Nat} {cur : Array Value} {e : TypeId} {fr : Nat × Nat} (h : w.heap[b]? = some (.cells cur e fr)) (ho : o < cur.size) (v : Value) : w.setCell ⟨b, o, none⟩ v = w.setRow b (cur.setIfInBounds o v) := by
  unfold World.setCell World.setRow
  congr 1
  apply Array.ext_getElem?
  intro i
  rw [Array.getElem?_modify, Array.getElem?_modify]
  split
  · rename_i hi
    subst hi
    rw [h]
    simp
  · rfl
theorem setRow_setRow (w : World) (b : Nat) (c1 c2 : Array Value) : (w.setRow b c1).setRow b c2 = w.setRow b c2 := by
  unfold World.setRow
  congr 1
  apply Array.ext_getElem?
  intro i
  rw [Array.getElem?_modify, Array.getElem?_modify, Array.getElem?_modify]
  split
  · cases w.heap[i]? with
    | none => rfl
    | some o => cases o <;> rfl
  · rfl
theorem setCells_setRow {b : Nat} {e : TypeId} : ∀ (vs : List Value) (o : Nat) (w : World) (cur : Array Value), w.heap[b]? = some (.cells cur e (0, 0)) → o + vs.length ≤ cur.size →
    w.setCells b o vs = w.setRow b (cur.toList.take o ++ vs ++ cur.toList.drop (o + vs.length)).toArray
  | [], o, w, cur, h, _ => by
    simp only [World.setCells, List.append_nil, List.length_nil, Nat.add_zero, List.take_append_drop, Array.toArray_toList]
    rw [setRow_self w b cur e (0, 0) h]
  | v :: r, o, w, cur, h, hl => by
    simp only [List.length_cons] at hl
    rw [World.setCells, heap_setCell1 h (by omega), setCells_setRow r (o + 1) _ _ (setRow_heap w b cur _ e (0, 0) h) (by simp; omega), setRow_setRow]
    congr 1
    have := list_seg_step cur.toList o v r (by simp; omega)
    rw [Array.toList_setIfInBounds, this]
    simp
theorem seg_size (cur : Array Value) (o : Nat) (vs : List Value) (h : o + vs.length ≤ cur.size) : (cur.toList.take o ++ vs ++ cur.toList.drop (o + vs.length)).toArray.size = cur.size := by
  simp
  omega
theorem keeps_alloc (w : World) (o : Go.Obj) : Keeps (fun _ => False) w (w.alloc o) := (Keeps.refl _ w).alloc o

/-! ### Ghosts -/
def Gh.put (G : Gh) (id g m : Nat) (p : Place) (nu : Nat → Nat → Option (Value × Nat)) : Gh :=
  ⟨fun i g' => if i = id ∧ g' = g then some p else G.φ i g', fun i g' m' a b => if i = id ∧ g' = g ∧ m' = m then nu a b else G.ν i g' m' a b⟩

def nuOf (t : Ty) (xs : List t.D) (cells : List Value) (i o : Nat) : Option (Value × Nat) :=
  match xs[i]? with
  | some x => match enth (toE t x) o with
    | some (.sl _ t' _) => (cells[i * t.sz + o]?).map fun v => (v, t'.sz)
    | _ => none
  | none => none

theorem Gh.put_le {G : Gh} {id g m : Nat} {p : Place} {nu : Nat → Nat → Option (Value × Nat)} (h1 : G.φ id g = none ∨ G.φ id g = some p) (h2 : ∀ a b, G.ν id g m a b = none) : Le G (G.put id g m p nu) :=
  ⟨fun i g' q h => by
    simp only [Gh.put]
    split
    · rename_i e
      obtain ⟨rfl, rfl⟩ := e
      rcases h1 with h1 | h1
      · rw [h1] at h; cases h
      · rw [← h1]; exact h
    · exact h,
  fun i g' m' a b x h => by
    simp only [Gh.put]
    split
    · rename_i e
      obtain ⟨rfl, rfl, rfl⟩ := e
      rw [h2] at h; cases h
    · exact h⟩
theorem Gh.put_same {G : Gh} {id g m : Nat} {p : Place} {nu : Nat → Nat → Option (Value × Nat)} {j : Nat} (h : j ≠ id) : Same G (G.put id g m p nu) j :=
  ⟨fun g' => by simp [Gh.put, h], fun g' m' a b => by simp [Gh.put, h]⟩
theorem Same.trans {a b c : Gh} {j : Nat} (h : Same a b j) (k : Same b c j) : Same a c j := ⟨fun g => (k.φ g).trans (h.φ g), fun g m i o => (k.ν g m i o).trans (h.ν g m i o)⟩

def kill (own : Nat → Option Nat) (ids : List Nat) : Nat → Option Nat := fun b => match own b with
  | some i => if i ∈ ids then none else some i
  | none => none
theorem kill_some {own : Nat → Option Nat} {ids : List Nat} {b j : Nat} : kill own ids b = some j ↔ own b = some j ∧ j ∉ ids := by
  unfold kill
  cases own b with
  | none => simp
  | some i =>
    simp only
    split
    · rename_i h
      simp
      rintro rfl; exact h
    · rename_i h
      simp
      rintro rfl; exact h
theorem kill_nil (own : Nat → Option Nat) : kill own [] = own := by
  funext b
  unfold kill
  cases own b <;> simp

theorem hget_deads : ∀ (ids : List Nat) (H : List Obj) (j : Nat), hget (hputs H (deads ids)) j = if j ∈ ids then .dead else hget H j
  | [], H, j => by simp [deads, hputs]
  | i :: r, H, j => by
    rw [deads, hputs, hget_deads r, hget_hput]
    by_cases h : j ∈ r
    · simp [h]
    · by_cases e : i = j
      · subst e; simp
      · simp [h, e, Ne.symm e]
theorem hputs_app : ∀ (a b : List (Nat × Obj)) (H : List Obj), hputs H (app a b) = hputs (hputs H a) b
  | [], b, H => rfl
  | (i, o) :: r, b, H => hputs_app r b _

section
variable {P : Program} {S : Sta} {G : Gh} {w w' : World} {own own' : Nat → Option Nat} {H : List Obj}

theorem Hs.kill (h : Hs S G own H w) (ids : List Nat) : Hs S G (kill own ids) (hputs H (Ev.deads ids)) w :=
  ⟨fun j => by
    rw [hget_deads]
    split
    · trivial
    · rename_i hj
      exact (h.obj j).stay (Le.refl G) (Same.refl ..) (fun _ _ => rfl) (fun b hb => kill_some.2 ⟨hb, hj⟩),
    fun b j hb => h.own b j (kill_some.1 hb).1⟩

/-- other blocks alone have turned -/
theorem Hs.move (h : Hs S G own H w) (hk : ∀ b j, own b = some j → w'.heap[b]? = w.heap[b]?) (hsz : w.heap.size ≤ w'.heap.size) : Hs S G own H w' :=
  ⟨fun j => (h.obj j).stay (Le.refl G) (Same.refl ..) (fun b hb => hk b j hb) (fun _ x => x), fun b j hb => ⟨Nat.lt_of_lt_of_le (h.own b j hb).1 hsz, (h.own b j hb).2⟩⟩

theorem OwE.len {α : Type} {Q : α → List Value → List Nat → Prop} {sz : Nat} (hQ : ∀ x c b, Q x c b → c.length = sz) : ∀ {xs : List α} {cs : List Value} {bs : List Nat}, OwE Q sz xs cs bs → xs.length * sz ≤ cs.length
  | [], _, _, _ => by simp
  | x :: r, cs, bs, ⟨b1, b2, _, h1, h2⟩ => by
    have e1 := hQ _ _ _ h1
    have e2 := OwE.len hQ h2
    simp at e1 e2
    rw [List.length_cons, Nat.add_mul]
    omega

theorem nuOk_put {id g m : Nat} {p : Place} {e : TypeId} {t : Ty} {xs : List t.D} {cells : List Value} {bs : List Nat} (h : OwE (OwT S.Fr w t) t.sz xs cells bs) : NuOk (G.put id g m p (nuOf t xs cells)) id g m t xs cells := by
  intro j x o e' t' ys hj he
  obtain ⟨b, _, k⟩ := h.get j x hj
  have h1 := k.len
  have h2 := enth_lt _ _ he
  have h3 := k.el.len
  have h4 : ((cells.drop (j * t.sz)).take t.sz).length ≤ cells.length - j * t.sz := by simp [Nat.min_le_right]
  have hlt : j * t.sz + o < cells.length := by omega
  refine ⟨cells[j * t.sz + o], List.getElem?_eq_getElem hlt, ?_⟩
  simp [Gh.put, nuOf, hj, he, List.getElem?_eq_getElem hlt]

/-- a row is laid, new or anew -/
theorem put_row (hh : Hs S G own H w) {id g m : Nat} {p : Place} {e : TypeId} {t : Ty} {ex : Option Nat} {xs : List t.D}
    (hφ : G.φ id g = none ∨ G.φ id g = some p) (hφ' : ∀ g', g < g' → G.φ id g' = none) (hν : ∀ g' m', g < g' ∨ (g' = g ∧ m ≤ m') → ∀ i o, G.ν id g' m' i o = none)
    (psz : p.sz = t.sz) (plen : p.len = xs.length) (proom : xs.length + ex.getD 0 ≤ p.room)
    (hb : ∀ b j, own b = some j → j ≠ id → w'.heap[b]? = w.heap[b]?) (ho : ∀ b j, own b = some j → j ≠ id → own' b = some j) (hown : ∀ b j, own' b = some j → b < w'.heap.size ∧ (S.O b ∨ S.w0.heap.size ≤ b))
    (hp : match p.blk with
      | none => xs = [] ∧ ex.getD 0 = 0
      | some b => ∃ (cur : Array Value) (bs : List Nat), w'.heap[b]? = some (.cells cur e (0, 0)) ∧ cur.size = p.lim ∧ p.base + (xs.length + ex.getD 0) * t.sz ≤ p.lim ∧
          OwE (OwT S.Fr w' t) t.sz xs (cur.toList.drop p.base) bs ∧ (b :: bs).Nodup ∧ ∀ x ∈ b :: bs, own' x = some id) :
    ∃ G', Le G G' ∧ G'.φ id g = some p ∧ (∀ j, j ≠ id → Same G G' j) ∧ Hs S G' own' (hput H id (.row e t g m ex none xs)) w' := by
  have mk : ∀ nu : Nat → Nat → Option (Value × Nat), ObjS S (G.put id g m p nu) own' w' id (.row e t g m ex none xs) →
      ∃ G', Le G G' ∧ G'.φ id g = some p ∧ (∀ j, j ≠ id → Same G G' j) ∧ Hs S G' own' (hput H id (.row e t g m ex none xs)) w' := by
    intro nu hob
    have hle : Le G (G.put id g m p nu) := Gh.put_le hφ fun a b => hν g m (.inr ⟨rfl, Nat.le_refl _⟩) a b
    exact ⟨_, hle, by simp [Gh.put], fun j hj => Gh.put_same hj, hh.upd id _ hle (fun j hj => Gh.put_same hj) hb ho hob hown⟩
  have head : ∀ nu : Nat → Nat → Option (Value × Nat), (∀ g', g < g' → (G.put id g m p nu).φ id g' = none) ∧ ∀ g' m', g < g' ∨ (g' = g ∧ m < m') → ∀ i o, (G.put id g m p nu).ν id g' m' i o = none := by
    intro nu
    refine ⟨fun g' hg => ?_, fun g' m' hg i o => ?_⟩
    · have : ¬ g' = g := by omega
      simp [Gh.put, this, hφ' g' hg]
    · have : ¬ (g' = g ∧ m' = m) := by omega
      simp [Gh.put, this, hν g' m' (by omega) i o]
  cases hblk : p.blk with
  | none =>
    rw [hblk] at hp
    exact mk (fun _ _ => none) ⟨rfl, (head _).1, (head _).2, p, by simp [Gh.put], psz, plen, proom, by rw [hblk]; exact hp⟩
  | some b =>
    rw [hblk] at hp
    obtain ⟨cur, bs, k1, k2, k3, k4, k5, k6⟩ := hp
    exact mk (nuOf t xs (cur.toList.drop p.base)) ⟨rfl, (head _).1, (head _).2, p, by simp [Gh.put], psz, plen, proom, by rw [hblk]; exact ⟨cur, bs, k1, k2, k3, k4, k5, k6, nuOk_put (e := e) k4⟩⟩

/-- a box is laid -/
theorem put_box (hh : Hs S G own H w) {id b : Nat} {T : TypeId} {cs : List Cv} {us : List Value} (hφ : G.φ id 0 = none ∨ ∃ p, G.φ id 0 = some p ∧ p.blk = some b ∧ p.base = 0 ∧ p.len = 1 ∧ p.sz = cs.length) (hν : ∀ a o, G.ν id 0 0 a o = none)
    (hb : ∀ b j, own b = some j → j ≠ id → w'.heap[b]? = w.heap[b]?) (ho : ∀ b j, own b = some j → j ≠ id → own' b = some j) (hown : ∀ b j, own' b = some j → b < w'.heap.size ∧ (S.O b ∨ S.w0.heap.size ≤ b))
    (hblk : w'.heap[b]? = some (.cells us.toArray T (0, 0))) (hid : own' b = some id) (hv : ∀ G', Le G G' → VL S G' cs us) :
    ∃ G' p, Le G G' ∧ G'.φ id 0 = some p ∧ p.blk = some b ∧ p.base = 0 ∧ p.len = 1 ∧ (∀ j, j ≠ id → Same G G' j) ∧ Hs S G' own' (hput H id (.box T cs)) w' := by
  rcases hφ with hφ | ⟨p, h1, h2, h3, h4, h5⟩
  · have hle : Le G (G.put id 0 0 ⟨some b, 0, cs.length, 1, us.length, 1⟩ fun _ _ => none) := Gh.put_le (.inl hφ) hν
    refine ⟨_, _, hle, by simp [Gh.put]; rfl, rfl, rfl, rfl, fun j hj => Gh.put_same hj, hh.upd id _ hle (fun j hj => Gh.put_same hj) hb ho ?_ hown⟩
    exact ⟨_, b, us.toArray, by simp [Gh.put]; rfl, rfl, rfl, rfl, rfl, hblk, by simpa using hv _ hle, hid⟩
  · refine ⟨G, p, Le.refl G, h1, h2, h3, h4, fun j _ => Same.refl .., hh.upd id _ (Le.refl G) (fun j _ => Same.refl ..) hb ho ?_ hown⟩
    exact ⟨p, b, us.toArray, h1, h2, h3, h4, h5, hblk, by simpa using hv _ (Le.refl G), hid⟩
end
end Go.Proofs.Ytgnnljpdcafdkaa.Ev

/- What is handed over: cells closed. -/
namespace Go.Proofs.Ytgnnljpdcafdkaa.Ev
open Go

theorem OwE.drop {α : Type} {Q : α → List Value → List Nat → Prop} {sz : Nat} : ∀ (l : Nat) {xs : List α} {cs : List Value} {bs : List Nat}, OwE Q sz xs cs bs → ∃ bs', bs'.Sublist bs ∧ OwE Q sz (xs.drop l) (cs.drop (l * sz)) bs'
  | 0, xs, cs, bs, h => ⟨bs, List.Sublist.refl _, by simpa using h⟩
  | l + 1, [], cs, bs, h => ⟨[], List.nil_sublist _, rfl⟩
  | l + 1, x :: r, cs, bs, ⟨b1, b2, hb, h1, h2⟩ => by
    obtain ⟨bs', k1, k2⟩ := OwE.drop l h2
    refine ⟨bs', by rw [hb]; exact k1.trans (List.sublist_append_right _ _), ?_⟩
    rw [List.drop_drop] at k2
    rw [show (l + 1) * sz = sz + l * sz by rw [Nat.add_mul]; omega]
    exact k2
theorem OwE.take {α : Type} {Q : α → List Value → List Nat → Prop} {sz : Nat} : ∀ (n : Nat) {xs : List α} {cs : List Value} {bs : List Nat}, OwE Q sz xs cs bs → ∃ bs', bs'.Sublist bs ∧ OwE Q sz (xs.take n) cs bs'
  | 0, xs, cs, bs, h => ⟨[], List.nil_sublist _, by simp; rfl⟩
  | n + 1, [], cs, bs, h => ⟨[], List.nil_sublist _, rfl⟩
  | n + 1, x :: r, cs, bs, ⟨b1, b2, hb, h1, h2⟩ => by
    obtain ⟨bs', k1, k2⟩ := OwE.take n h2
    exact ⟨b1 ++ bs', by rw [hb]; exact List.Sublist.append (List.Sublist.refl _) k1, b1, bs', rfl, h1, k2⟩

section
variable {P : Program} {S : Sta} {G : Gh} {w : World} {own : Nat → Option Nat} {H : List Obj} {look : Nat → Obj}

theorem part_ow {id gen m : Nat} {e : TypeId} {t : Ty} {ex : Option Nat} {le : Option (Nat × Nat)} {xs : List t.D} (ho : ObjS S G own w id (.row e t gen m ex le xs)) {p : Place} (hp : G.φ id gen = some p) {off len : Nat} (hlen : off + len ≤ p.len) {u : Value} (hu : SlOf p off len u) :
    ∃ bs, OwT S.Fr w (.slice e t) ((xs.drop off).take len) [u] bs ∧ bs.Nodup ∧ ∀ b ∈ bs, own b = some id := by
  obtain ⟨_, _, _, q, h4, h5, h6, hr, h7⟩ := ho
  rw [hp] at h4
  obtain rfl : p = q := by simpa using h4
  unfold SlOf at hu
  cases hb : p.blk with
  | none =>
    rw [hb] at hu h7
    obtain ⟨rfl, _⟩ := h7
    obtain ⟨rfl, rfl⟩ := hu
    exact ⟨[], .inl ⟨rfl, by simp, rfl⟩, List.nodup_nil, fun b hb => by simp at hb⟩
  | some b =>
    rw [hb] at hu h7
    obtain ⟨cur, bs, l1, l2, l3, l4, l5, l6, l7⟩ := h7
    obtain ⟨o, c, rfl, k1, k2, k3, k4⟩ := hu
    have hl : ((xs.drop off).take len).length = len := by simp; omega
    obtain ⟨b1, s1, m1⟩ := l4.drop off
    obtain ⟨b2, s2, m2⟩ := m1.take len
    have hsub : b2.Sublist bs := s2.trans s1
    have howe : ∃ b3, b3.Sublist bs ∧ OwE (OwT S.Fr w t) t.sz ((xs.drop off).take len) (cur.toList.drop o) b3 := by
      by_cases h0 : len = 0
      · subst h0
        exact ⟨[], List.nil_sublist _, by simp; rfl⟩
      · refine ⟨b2, hsub, ?_⟩
        rw [List.drop_drop] at m2
        rw [k4 (by omega), h5]
        exact m2
    obtain ⟨b3, s3, m3⟩ := howe
    refine ⟨b :: b3, .inr ⟨b, o, c, cur, b3, by rw [hl], by omega, k2, l1, by rw [l2, ← h5]; exact k3, rfl, m3⟩, List.Nodup.sublist (List.Sublist.cons_cons _ s3) l5, fun x hx => l6 x ?_⟩
    rcases List.mem_cons.1 hx with rfl | hx
    · simp
    · simp [s3.subset hx]

theorem chTk_some {e : TypeId} {t : Ty} {cs r : List Cv} {xs : List t.D} {ids : List Nat} (h : chTk look e t cs = some (xs, r, ids)) :
    (cs = .nil :: r ∧ xs = [] ∧ ids = []) ∨ (∃ id gen, cs = .own id gen :: r ∧ ids = [id] ∧ rdS look e t (.own id gen) = some xs) ∨ (∃ id gen off len, cs = .part id gen off len :: r ∧ ids = [id] ∧ rdS look e t (.part id gen off len) = some xs) := by
  unfold chTk at h
  split at h
  · simp at h; obtain ⟨rfl, rfl, rfl⟩ := h; exact .inl ⟨rfl, rfl, rfl⟩
  · split at h
    · simp at h; obtain ⟨rfl, rfl, rfl⟩ := h; exact .inr (.inl ⟨_, _, rfl, rfl, by assumption⟩)
    · cases h
  · split at h
    · simp at h; obtain ⟨rfl, rfl, rfl⟩ := h; exact .inr (.inr ⟨_, _, _, _, rfl, rfl, by assumption⟩)
    · cases h
  · cases h
theorem chIo_some {e : TypeId} {t : Ty} {cs r : List Cv} {xs : List t.D} {ids : List Nat} (h : chIo look e t cs = some (xs, r, ids)) :
    (cs = .nil :: r ∧ xs = [] ∧ ids = []) ∨ (∃ id gen, cs = .own id gen :: r ∧ ids = [id] ∧ rdS look e t (.own id gen) = some xs) := by
  unfold chIo at h
  split at h
  · simp at h; obtain ⟨rfl, rfl, rfl⟩ := h; exact .inl ⟨rfl, rfl, rfl⟩
  · split at h
    · simp at h; obtain ⟨rfl, rfl, rfl⟩ := h; exact .inr ⟨_, _, rfl, rfl, by assumption⟩
    · cases h
  · cases h
theorem rdS_own {e : TypeId} {t : Ty} {id gen : Nat} {xs : List t.D} (h : rdS look e t (.own id gen) = some xs) : ∃ m ex, look id = .row e t gen m ex none xs := by
  simp only [rdS] at h
  split at h
  · rename_i e' t' g m ex ys hlk
    split at h
    · rename_i e1
      obtain ⟨rfl, rfl⟩ := e1
      split at h
      · rename_i hg
        subst hg
        simp [castL] at h; subst h
        exact ⟨_, _, hlk⟩
      · cases h
    · cases h
  · cases h
theorem rdS_part {e : TypeId} {t : Ty} {id gen off len : Nat} {xs : List t.D} (h : rdS look e t (.part id gen off len) = some xs) : ∃ m ex ys, look id = .row e t gen m ex none ys ∧ xs = (ys.drop off).take len := by
  simp only [rdS] at h
  split at h
  · rename_i e' t' g m ex ys hlk
    split at h
    · rename_i e1
      obtain ⟨rfl, rfl⟩ := e1
      split at h
      · rename_i hg
        subst hg
        simp [castL] at h; subst h
        exact ⟨_, _, _, hlk, rfl⟩
      · cases h
    · cases h
  · cases h
theorem own_ow (hh : Hs S G own H w) (hl : LookOk look H) {e : TypeId} {t : Ty} {id gen : Nat} {xs : List t.D} (h : rdS look e t (.own id gen) = some xs) {u : Value} (hv : VC S G (.own id gen) u) :
    ∃ bs, OwT S.Fr w (.slice e t) xs [u] bs ∧ bs.Nodup ∧ ∀ b ∈ bs, own b = some id := by
  obtain ⟨m, ex, hlk⟩ := rdS_own h
  have ho := hl.of hlk (by simp)
  have hob := hh.obj id
  rw [ho] at hob
  obtain ⟨p, p1, p2, _⟩ := hv
  have hp := row_place hh p1 ho rfl
  obtain ⟨bs, k1, k2, k3⟩ := part_ow hob p1 (off := 0) (len := p.len) (by omega) p2
  refine ⟨bs, ?_, k2, k3⟩
  rw [hp.2.1] at k1
  simpa using k1

theorem boxOf_some {T : TypeId} {o : Obj} {ds : List Cv} (h : boxOf T o = some ds) : o = .box T ds := by
  unfold boxOf at h
  split at h
  · split at h
    · rename_i e; simp at h; rw [e, h]
    · cases h
  · cases h

theorem tkC_ow (hh : Hs S G own H w) (hl : LookOk look H) : ∀ {t : Ty} {cs r : List Cv} {x : t.D} {ids : List Nat} {us : List Value}, tkC look t cs = some (x, r, ids) → VL S G cs us → ids.Nodup →
    ∃ c1 u1 u2 bs, cs = c1 ++ r ∧ us = u1 ++ u2 ∧ OwT S.Fr w t x u1 bs ∧ VL S G r u2 ∧ bs.Nodup ∧ ∀ b ∈ bs, ∃ id ∈ ids, own b = some id
  | .int k, cs, r, x, ids, us, h, hv, _ => by
    obtain ⟨h', rfl⟩ := noIds_some h
    have e := chInt_some h'; subst e
    obtain ⟨u, us', rfl, h1, h2⟩ := VL_cons hv
    exact ⟨[_], [u], us', [], rfl, rfl, ⟨by rw [show u = _ from h1], rfl⟩, h2, List.nodup_nil, fun b hb => by simp at hb⟩
  | .bool, cs, r, x, ids, us, h, hv, _ => by
    obtain ⟨h', rfl⟩ := noIds_some h
    have e := chBool_some h'; subst e
    obtain ⟨u, us', rfl, h1, h2⟩ := VL_cons hv
    exact ⟨[_], [u], us', [], rfl, rfl, ⟨by rw [show u = _ from h1], rfl⟩, h2, List.nodup_nil, fun b hb => by simp at hb⟩
  | .str, cs, r, x, ids, us, h, hv, _ => by
    obtain ⟨h', rfl⟩ := noIds_some h
    have e := chStr_some h'; subst e
    obtain ⟨u, us', rfl, h1, h2⟩ := VL_cons hv
    exact ⟨[_], [u], us', [], rfl, rfl, ⟨by rw [show u = _ from h1], rfl⟩, h2, List.nodup_nil, fun b hb => by simp at hb⟩
  | .unit, cs, r, x, ids, us, h, hv, _ => by
    simp [tkC] at h
    obtain ⟨rfl, rfl⟩ := h
    exact ⟨[], [], us, [], rfl, rfl, ⟨rfl, rfl⟩, hv, List.nodup_nil, fun b hb => by simp at hb⟩
  | .pair a b, cs, r, x, ids, us, h, hv, hn => by
    obtain ⟨r1, i, j, h1, h2, rfl⟩ := tkC_pair h
    have hn' := List.nodup_append.1 hn
    obtain ⟨c1, u1, u2, b1, rfl, rfl, k1, v1, n1, o1⟩ := tkC_ow hh hl h1 hv hn'.1
    obtain ⟨c2, u3, u4, b2, rfl, rfl, k2, v2, n2, o2⟩ := tkC_ow hh hl h2 v1 hn'.2.1
    refine ⟨c1 ++ c2, u1 ++ u3, u4, b1 ++ b2, by simp, by simp, ⟨_, _, _, _, rfl, rfl, k1, k2⟩, v2, List.nodup_append.2 ⟨n1, n2, fun x hx y hy e => ?_⟩, fun x hx => ?_⟩
    · subst e
      obtain ⟨i1, hi1, e1⟩ := o1 x hx
      obtain ⟨i2, hi2, e2⟩ := o2 x hy
      rw [e1] at e2
      simp at e2; subst e2
      exact hn'.2.2 i1 hi1 i1 hi2 rfl
    · rcases List.mem_append.1 hx with hx | hx
      · obtain ⟨i1, hi1, e1⟩ := o1 x hx
        exact ⟨i1, by simp [hi1], e1⟩
      · obtain ⟨i1, hi1, e1⟩ := o2 x hx
        exact ⟨i1, by simp [hi1], e1⟩
  | .st t, cs, r, x, ids, us, h, hv, hn => tkC_ow (t := t) hh hl h hv hn
  | .slice e t, cs, r, x, ids, us, h, hv, _ => by
    rcases chTk_some h with ⟨rfl, rfl, rfl⟩ | ⟨id, gen, rfl, rfl, h1⟩ | ⟨id, gen, off, len, rfl, rfl, h1⟩
    · obtain ⟨u, us', rfl, v1, v2⟩ := VL_cons hv
      exact ⟨[_], [u], us', [], rfl, rfl, .inl ⟨by rw [show u = _ from v1], rfl, rfl⟩, v2, List.nodup_nil, fun b hb => by simp at hb⟩
    · obtain ⟨u, us', rfl, v1, v2⟩ := VL_cons hv
      obtain ⟨bs, k1, k2, k3⟩ := own_ow hh hl h1 v1
      exact ⟨[_], [u], us', bs, rfl, rfl, k1, v2, k2, fun b hb => ⟨id, by simp, k3 b hb⟩⟩
    · obtain ⟨u, us', rfl, v1, v2⟩ := VL_cons hv
      obtain ⟨m, ex, ys, hlk, rfl⟩ := rdS_part h1
      have hob := hh.obj id
      rw [hl.of hlk (by simp)] at hob
      obtain ⟨p, p1, p3, p2, _⟩ := v1
      obtain ⟨bs, k1, k2, k3⟩ := part_ow hob p1 p3 p2
      exact ⟨[_], [u], us', bs, rfl, rfl, k1, v2, k2, fun b hb => ⟨id, by simp, k3 b hb⟩⟩
  | .rs e t, cs, r, x, ids, us, h, hv, _ => by
    obtain ⟨h', rfl⟩ := noIds_some h
    have e := chRs_some h'; subst e
    obtain ⟨u, us', rfl, v1, v2⟩ := VL_cons hv
    exact ⟨[_], [u], us', [], rfl, rfl, ⟨u, rfl, v1, rfl⟩, v2, List.nodup_nil, fun b hb => by simp at hb⟩
  | .bx T t, cs, r, x, ids, us, h, hv, hn => by
    unfold tkC at h
    split at h
    · rename_i id r' hc
      split at h
      · rename_i ds hb
        split at h
        · rename_i y is ht
          simp at h
          obtain ⟨rfl, rfl, rfl⟩ := h
          have e := chPtr_some hc; subst e
          have hbo := boxOf_some hb
          obtain ⟨u, us', rfl, v1, v2⟩ := VL_cons hv
          have hob := hh.obj id
          rw [hl.of hbo (by simp)] at hob
          obtain ⟨p, b, cur, q1, q2, q3, q4, q5, q6, q7, q8⟩ := hob
          obtain ⟨q, b', m1, m2, m3, m4⟩ := v1
          rw [q1] at m1
          obtain rfl : p = q := by simpa using m1
          rw [q2] at m2
          obtain rfl : b = b' := by simpa using m2
          have hn' := List.nodup_cons.1 hn
          obtain ⟨c1, u1, u2, bs, e1, e2, k1, k2, k3, k4⟩ := tkC_ow (t := t) hh hl ht q7 hn'.2
          have := VL_nil k2
          subst this
          rw [List.append_nil] at e2
          refine ⟨[_], [u], us', b :: bs, rfl, rfl, ⟨b, cur, bs, by rw [m4, q3]; simp, q6, rfl, by rw [e2]; exact k1⟩, v2, List.nodup_cons.2 ⟨fun hx => ?_, k3⟩, fun x hx => ?_⟩
          · obtain ⟨i, hi, e3⟩ := k4 b hx
            rw [q8] at e3
            simp at e3; subst e3
            exact hn'.1 hi
          · rcases List.mem_cons.1 hx with rfl | hx
            · exact ⟨id, by simp, q8⟩
            · obtain ⟨i, hi, e3⟩ := k4 x hx
              exact ⟨i, by simp [hi], e3⟩
        · cases h
      · cases h
    · cases h

theorem ioC_tk : ∀ {t : Ty} {cs r : List Cv} {x : t.D} {ids : List Nat}, ioC look t cs = some (x, r, ids) → tkC look t cs = some (x, r, ids)
  | .int _, _, _, _, _, h => h
  | .bool, _, _, _, _, h => h
  | .str, _, _, _, _, h => h
  | .unit, _, _, _, _, h => h
  | .pair a b, cs, r, x, ids, h => by
    obtain ⟨r1, i, j, h1, h2, rfl⟩ := ioC_pair h
    simp [tkC, ioC_tk h1, ioC_tk h2]
  | .st t, _, _, _, _, h => ioC_tk (t := t) h
  | .slice e t, cs, r, x, ids, h => by
    rcases chIo_some h with ⟨rfl, rfl, rfl⟩ | ⟨id, gen, rfl, rfl, h1⟩
    · rfl
    · simp [tkC, chTk, h1]
  | .rs _ _, _, _, _, _, h => h
  | .bx T t, _, _, _, _, h => h
end
end Go.Proofs.Ytgnnljpdcafdkaa.Ev

/- What is opened: new rows and boxes out of what was handed over. -/
namespace Go.Proofs.Ytgnnljpdcafdkaa.Ev
open Go

theorem hget_hputs_out : ∀ (us : List (Nat × Obj)) (H : List Obj) (j : Nat), (∀ p ∈ us, p.1 ≠ j) → hget (hputs H us) j = hget H j
  | [], _, _, _ => rfl
  | (i, o) :: r, H, j, h => by
    rw [hputs, hget_hputs_out r _ j fun p hp => h p (by simp [hp]), hget_hput, if_neg (h (i, o) (by simp))]
theorem hputs_append (a b : List (Nat × Obj)) (H : List Obj) : hputs H (a ++ b) = hputs (hputs H a) b := by
  rw [← app_eq, hputs_app]

theorem opC_ids : ∀ {t : Ty} {x : t.D} {base : Nat}, ∀ p ∈ (opC t x base).2, base ≤ p.1 ∧ p.1 < base + t.nsl
  | .int _, _, _, p, h => by simp [opC] at h
  | .bool, _, _, p, h => by simp [opC] at h
  | .str, _, _, p, h => by simp [opC] at h
  | .unit, _, _, p, h => by simp [opC] at h
  | .pair a b, x, base, p, h => by
    simp only [opC, List.mem_append] at h
    simp only [Ty.nsl]
    rcases h with h | h
    · have := opC_ids p h; omega
    · have := opC_ids p h; omega
  | .st t, x, base, p, h => opC_ids (t := t) p h
  | .slice _ _, _, _, p, h => by simp [opC] at h; subst h; simp [Ty.nsl]
  | .rs _ _, _, _, p, h => by simp [opC] at h
  | .bx T t, x, base, p, h => by
    simp only [opC, List.mem_cons] at h
    simp only [Ty.nsl]
    rcases h with rfl | h
    · simp; omega
    · have := opC_ids (t := t) p h; omega

section
variable {P : Program} {S : Sta} {G : Gh} {w w' : World} {own own' : Nat → Option Nat} {H H' : List Obj}

theorem Hs.congr (h : Hs S G own H w) (e : ∀ j, hget H' j = hget H j) : Hs S G own H' w := ⟨fun j => by rw [e j]; exact h.obj j, h.own⟩

/-- whose the blocks are, from now on -/
def give (own : Nat → Option Nat) (bs : List Nat) (id : Nat) : Nat → Option Nat := fun b => if b ∈ bs then some id else own b

theorem opC_open : ∀ {t : Ty} {x : t.D} {cs : List Value} {bs : List Nat} {base : Nat} {G : Gh} {own : Nat → Option Nat} {H : List Obj}, OwT S.Fr w t x cs bs → Hs S G own H w → (∀ j, base ≤ j → j < base + t.nsl → hget H j = .free) → bs.Nodup →
    (∀ b ∈ bs, own b = none ∧ (S.O b ∨ S.w0.heap.size ≤ b)) → ∃ G' own', Le G G' ∧ (∀ j, j < base ∨ base + t.nsl ≤ j → Same G G' j) ∧ VL S G' (opC t x base).1 cs ∧ Hs S G' own' (hputs H (opC t x base).2) w ∧
      (∀ b, b ∉ bs → own' b = own b) ∧ (∀ b j, own b = some j → own' b = some j) ∧ (∀ b ∈ bs, ∃ j, base ≤ j ∧ j < base + t.nsl ∧ own' b = some j)
  | .int _, x, cs, bs, base, G, own, H, ho, hh, _, _, _ => by
    obtain ⟨rfl, rfl⟩ := ho
    exact ⟨G, own, Le.refl G, fun _ _ => Same.refl .., ⟨rfl, trivial⟩, hh, fun _ _ => rfl, fun _ _ h => h, fun b hb => by simp at hb⟩
  | .bool, x, cs, bs, base, G, own, H, ho, hh, _, _, _ => by
    obtain ⟨rfl, rfl⟩ := ho
    exact ⟨G, own, Le.refl G, fun _ _ => Same.refl .., ⟨rfl, trivial⟩, hh, fun _ _ => rfl, fun _ _ h => h, fun b hb => by simp at hb⟩
  | .str, x, cs, bs, base, G, own, H, ho, hh, _, _, _ => by
    obtain ⟨rfl, rfl⟩ := ho
    exact ⟨G, own, Le.refl G, fun _ _ => Same.refl .., ⟨rfl, trivial⟩, hh, fun _ _ => rfl, fun _ _ h => h, fun b hb => by simp at hb⟩
  | .unit, x, cs, bs, base, G, own, H, ho, hh, _, _, _ => by
    obtain ⟨rfl, rfl⟩ := ho
    exact ⟨G, own, Le.refl G, fun _ _ => Same.refl .., trivial, hh, fun _ _ => rfl, fun _ _ h => h, fun b hb => by simp at hb⟩
  | .pair a b, x, cs, bs, base, G, own, H, ho, hh, hf, hn, hb => by
    obtain ⟨c1, c2, b1, b2, rfl, rfl, h1, h2⟩ := ho
    simp only [Ty.nsl] at hf
    have hn' := List.nodup_append.1 hn
    obtain ⟨G1, own1, l1, s1, v1, hh1, o1, p1, q1⟩ := opC_open (base := base) h1 hh (fun j h1 h2 => hf j h1 (by omega)) hn'.1 (fun x hx => hb x (by simp [hx]))
    have hf2 : ∀ j, base + a.nsl ≤ j → j < base + a.nsl + b.nsl → hget (hputs H (opC a x.1 base).2) j = .free := fun j j1 j2 => by
      rw [hget_hputs_out _ _ _ fun p hp => by have := opC_ids p hp; omega]
      exact hf j (by omega) (by omega)
    obtain ⟨G2, own2, l2, s2, v2, hh2, o2, p2, q2⟩ := opC_open (base := base + a.nsl) h2 hh1 hf2 hn'.2.1 (fun x hx => by
      have := hb x (by simp [hx])
      exact ⟨by rw [o1 x fun hx1 => hn'.2.2 x hx1 x hx rfl]; exact this.1, this.2⟩)
    refine ⟨G2, own2, l1.trans l2, fun j hj => ?_, VL_append (v1.le l2) v2, by simp only [opC]; rw [hputs_append]; exact hh2, fun y hy => ?_, fun y j hy => p2 y j (p1 y j hy), fun y hy => ?_⟩
    · simp only [Ty.nsl] at hj
      exact (s1 j (by omega)).trans (s2 j (by omega))
    · simp at hy
      rw [o2 y hy.2, o1 y hy.1]
    · simp only [Ty.nsl]
      rcases List.mem_append.1 hy with hy | hy
      · obtain ⟨j, j1, j2, j3⟩ := q1 y hy
        exact ⟨j, j1, by omega, p2 y j j3⟩
      · obtain ⟨j, j1, j2, j3⟩ := q2 y hy
        exact ⟨j, by omega, by omega, j3⟩
  | .st t, x, cs, bs, base, G, own, H, ho, hh, hf, hn, hb => opC_open (t := t) (base := base) ho hh hf hn hb
  | .slice e t, xs, cs, bs, base, G, own, H, ho, hh, hf, hn, hb => by
    have hfree := hh.obj base
    rw [hf base (Nat.le_refl _) (by simp [Ty.nsl])] at hfree
    rcases ho with ⟨rfl, rfl, rfl⟩ | ⟨b, o, c, cur, b2, rfl, h1, h2, h3, h4, rfl, h5⟩
    · obtain ⟨G', l, hφ, hs, hh'⟩ := put_row (own' := own) (w' := w) (id := base) (g := 0) (m := 0) (p := ⟨none, 0, t.sz, 0, 0, 0⟩) (e := e) (t := t) (ex := none) (xs := []) hh (.inl (hfree.1 0)) (fun g' _ => hfree.1 g') (fun g' m' _ i o => hfree.2 g' m' i o)
        rfl rfl (by simp) (fun _ _ _ _ => rfl) (fun _ _ h _ => h) hh.own ⟨rfl, rfl⟩
      exact ⟨G', own, l, fun j hj => hs j (by simp only [Ty.nsl] at hj; omega), ⟨⟨_, hφ, ⟨rfl, rfl⟩, _, _, _, rfl, Nat.zero_le _⟩, trivial⟩, hh', fun _ _ => rfl, fun _ _ h => h, fun b hb => by simp at hb⟩
    · obtain ⟨G', l, hφ, hs, hh'⟩ := put_row (own' := give own (b :: b2) base) (w' := w) (id := base) (g := 0) (m := 0) (p := ⟨some b, o, t.sz, xs.length, cur.size, xs.length⟩) (e := e) (t := t) (ex := none) (xs := xs) hh (.inl (hfree.1 0)) (fun g' _ => hfree.1 g') (fun g' m' _ i o => hfree.2 g' m' i o)
        rfl rfl (by simp) (fun _ _ _ _ => rfl) (fun y j hy _ => by
          unfold give
          split
          · rename_i hm
            rw [(hb y hm).1] at hy; cases hy
          · exact hy) (fun y j hy => by
          unfold give at hy
          split at hy
          · rename_i hm
            have hlt := OwT.lt (t := .slice e t) (x := xs) (.inr ⟨b, o, c, cur, b2, rfl, h1, h2, h3, h4, rfl, h5⟩) y hm
            exact ⟨hlt, (hb y hm).2⟩
          · exact hh.own y j hy)
        ⟨cur, b2, h3, rfl, by
          have : xs.length * t.sz ≤ c * t.sz := Nat.mul_le_mul_right _ h1
          simp; omega, h5, hn, fun x hx => by unfold give; rw [if_pos hx]⟩
      refine ⟨G', _, l, fun j hj => hs j (by simp only [Ty.nsl] at hj; omega), ⟨⟨_, hφ, ⟨o, c, rfl, h1, h2, h4, fun _ => by simp⟩, _, _, _, rfl, by simpa using h1⟩, trivial⟩, hh', fun y hy => ?_, fun y j hy => ?_, fun y hy => ⟨base, Nat.le_refl _, by simp [Ty.nsl], by unfold give; rw [if_pos hy]⟩⟩
      · unfold give; rw [if_neg hy]
      · unfold give
        split
        · rename_i hm
          rw [(hb y hm).1] at hy; cases hy
        · exact hy
  | .rs e t, x, cs, bs, base, G, own, H, ho, hh, _, _, _ => by
    obtain ⟨u, rfl, h1, rfl⟩ := ho
    exact ⟨G, own, Le.refl G, fun _ _ => Same.refl .., ⟨h1, trivial⟩, hh, fun _ _ => rfl, fun _ _ h => h, fun b hb => by simp at hb⟩
  | .bx T t, x, cs, bs, base, G, own, H, ho, hh, hf, hn, hb => by
    obtain ⟨b, cur, b2, rfl, h1, rfl, h2⟩ := ho
    simp only [Ty.nsl] at hf
    have hfree := hh.obj base
    rw [hf base (Nat.le_refl _) (by omega)] at hfree
    have hn' := List.nodup_cons.1 hn
    obtain ⟨G1, own1, l1, s1, v1, hh1, o1, p1, q1⟩ := opC_open (t := t) (base := base + 1) h2 hh (fun j h1 h2 => hf j (by omega) (by omega)) hn'.2 (fun x hx => hb x (by simp [hx]))
    have sb := s1 base (by omega)
    have hb0 := hb b (by simp)
    have hob : own1 b = none := by rw [o1 b hn'.1]; exact hb0.1
    obtain ⟨G', p, l2, e1, e2, e3, e4, s2, hh2⟩ := put_box (own' := give own1 [b] base) (w' := w) (id := base) (b := b) (T := T) (cs := (opC t x (base + 1)).1) (us := cur.toList) hh1 (.inl (by rw [sb.φ]; exact hfree.1 0)) (fun a o => by rw [sb.ν]; exact hfree.2 ..)
      (fun _ _ _ _ => rfl) (fun y j hy _ => by
        unfold give
        split
        · rename_i hm
          simp at hm; subst hm
          rw [hob] at hy; cases hy
        · exact hy) (fun y j hy => by
        unfold give at hy
        split at hy
        · rename_i hm
          simp at hm; subst hm
          exact ⟨heap_lt h1, hb0.2⟩
        · exact hh1.own y j hy) (by simpa using h1) (by unfold give; simp) (fun G' hle => v1.le hle)
    refine ⟨G', _, l1.trans l2, fun j hj => ?_, ⟨⟨p, b, e1, e2, by rw [e4]; exact Nat.one_pos, by rw [e3]; simp⟩, trivial⟩, hh2.congr fun j => ?_, fun y hy => ?_, fun y j hy => ?_, fun y hy => ?_⟩
    · simp only [Ty.nsl] at hj
      exact (s1 j (by omega)).trans (s2 j (by omega))
    · simp only [opC, hputs]
      rw [hget_hput]
      by_cases e : base = j
      · subst e
        rw [hget_hputs_out _ _ _ fun p hp => by have := opC_ids (t := t) p hp; omega, hget_hput]
        simp
      · rw [if_neg e]
        have swap : ∀ (us : List (Nat × Obj)) (H : List Obj), hget (hputs (hput H base (.box T (opC t x (base + 1)).1)) us) j = hget (hputs H us) j := by
          intro us H
          induction us generalizing H with
          | nil => simp [hputs, hget_hput, e]
          | cons q r ih =>
            obtain ⟨i, oo⟩ := q
            simp only [hputs]
            have key : ∀ (us : List (Nat × Obj)) (A B : List Obj), (∀ k, k ≠ base → hget A k = hget B k) → hget (hputs A us) j = hget (hputs B us) j := by
              intro us
              induction us with
              | nil => intro A B h; exact h j (Ne.symm e)
              | cons q r ih => obtain ⟨i, oo⟩ := q; intro A B h; exact ih _ _ fun k hk => by rw [hget_hput, hget_hput, h k hk]
            exact key r _ _ fun k hk => by simp [hget_hput, Ne.symm hk]
        exact swap _ _
    · simp at hy
      unfold give
      rw [if_neg (by simpa using hy.1), o1 y hy.2]
    · unfold give
      split
      · rename_i hm
        simp at hm; subst hm
        rw [hb0.1] at hy; cases hy
      · exact p1 y j hy
    · simp only [Ty.nsl]
      rcases List.mem_cons.1 hy with rfl | hy2
      · exact ⟨base, Nat.le_refl _, by omega, by unfold give; simp⟩
      · obtain ⟨j, j1, j2, j3⟩ := q1 y hy2
        refine ⟨j, by omega, by omega, ?_⟩
        unfold give
        rw [if_neg (by simp; intro e; rw [e] at hy2; exact hn'.1 hy2)]
        exact j3
end
end Go.Proofs.Ytgnnljpdcafdkaa.Ev

/- Operations that lay new objects or turn old ones. -/
namespace Go.Proofs.Ytgnnljpdcafdkaa.Ev
open Go

/-- what an operation comes to -/
def Does (P : Program) (S : Sta) (G : Gh) (H : List Obj) (s : Sem Value) (w : World) (v : LV) (us : List (Nat × Obj)) : Prop :=
  ∃ u w' G' own', s.run P w = .ok u w' ∧ Le G G' ∧ VV S G' v u ∧ Keeps S.O S.w0 w' ∧ Hs S G' own' (hputs H us) w'

section
variable {P : Program} {S : Sta} {G : Gh} {w : World} {own : Nat → Option Nat} {H : List Obj} {look : Nat → Obj}

theorem Gives.does (hk : Keeps S.O S.w0 w) (hh : Hs S G own H w) {s : Sem Value} {v : LV} (h : Gives P S G s w v) : Does P S G H s w v [] := by
  obtain ⟨u, h1, h2⟩ := h
  exact ⟨u, w, G, own, h1, Le.refl G, h2, hk, hh⟩

theorem zero_vl : ∀ (t : Ty), VL S G (zeroC t) (zeroVs t)
  | .int _ => ⟨rfl, trivial⟩
  | .bool => ⟨rfl, trivial⟩
  | .str => ⟨rfl, trivial⟩
  | .unit => trivial
  | .pair a b => VL_append (zero_vl a) (zero_vl b)
  | .st t => zero_vl t
  | .slice _ _ => ⟨rfl, trivial⟩
  | .rs _ _ => ⟨rfl, trivial⟩
  | .bx _ _ => ⟨rfl, trivial⟩

/-- a new box -/
theorem new_box (hk : Keeps S.O S.w0 w) (hh : Hs S G own H w) {id : Nat} (hf : hget H id = .free) {T : TypeId} {cs : List Cv} {us : List Value} (hv : VL S G cs us) {s : Sem Value}
    (hr : s.run P w = .ok (.pointer (some ⟨w.heap.size, 0, none⟩)) (w.alloc (.cells us.toArray T))) : Does P S G H s w (.c (.ptr id 0 0 0)) [(id, .box T cs)] := by
  have hfree := hh.obj id
  rw [hf] at hfree
  have hlt : ∀ b j, own b = some j → b < w.heap.size := fun b j h => (hh.own b j h).1
  obtain ⟨G', p, l, e1, e2, e3, e4, _, hh'⟩ := put_box (w' := w.alloc (.cells us.toArray T)) (own' := give own [w.heap.size] id) (b := w.heap.size) (T := T) (cs := cs) (us := us) hh (.inl (hfree.1 0)) (fun a o => hfree.2 ..)
    (fun b j hb _ => heap_alloc_old w _ (hlt b j hb)) (fun b j hb _ => by
      unfold give
      rw [if_neg (by have := hlt b j hb; simp; omega)]
      exact hb) (fun b j hb => by
      unfold give at hb
      rw [size_alloc]
      split at hb
      · rename_i hm
        simp at hm; subst hm
        exact ⟨by omega, .inr hk.size⟩
      · exact ⟨by have := hlt b j hb; omega, (hh.own b j hb).2⟩) (heap_alloc_new w _) (by unfold give; simp) (fun G' hle => hv.le hle)
  exact ⟨_, _, G', _, hr, l, ⟨⟨p, _, e1, e2, by rw [e4]; exact Nat.one_pos, by rw [e3]; simp⟩, trivial⟩, hk.alloc _, hh'⟩

theorem alloc_does {tt : TT} (ok : TTok P tt) (hk : Keeps S.O S.w0 w) (hh : Hs S G own H w) {id : Nat} (hf : hget H id = .free) {T : TypeId} {t : Ty} (hT : tt.shape T = some t) : Does P S G H (Instr.alloc T true (.tuple #[])) w (.c (.ptr id 0 0 0)) [(id, .box T (zeroC t))] :=
  new_box hk hh hf (zero_vl t) (run_alloc ok hT w)

theorem solid_one (hF : S.FrOk) : ∀ {cs : List Cv} {us : List Value}, solid cs = true → VL S G cs us → ∀ x ∈ us, x.oneCell' = true
  | [], us, _, h, x, hx => by rw [VL_nil h] at hx; simp at hx
  | c :: r, us, hs, h, x, hx => by
    obtain ⟨u, us', rfl, h1, h2⟩ := VL_cons h
    have h3 : solid r = true := by cases c <;> simp_all [solid]
    rcases List.mem_cons.1 hx with rfl | hx
    · exact (VC.one hF hs h1).1
    · exact solid_one hF h3 h2 x hx
theorem solid_cells (hF : S.FrOk) {ag : Bool} {cs : List Cv} {u : Value} (hs : solid cs = true) (h : VA S G ag cs u) : ∃ us, u.cells = us.toArray ∧ VL S G cs us ∧ ∀ x ∈ us, x.oneCell' = true := by
  cases ag with
  | true => obtain ⟨us, rfl, h1⟩ := h; exact ⟨us, rfl, h1, solid_one hF hs h1⟩
  | false =>
    refine ⟨[u], ?_, h, solid_one hF hs h⟩
    match cs, h with
    | [c], h => exact (VC.one hF hs h.1).2
    | [], h => exact h.elim
    | _ :: _ :: _, h => exact h.2.elim

theorem box_does (hF : S.FrOk) (hk : Keeps S.O S.w0 w) (hh : Hs S G own H w) {id : Nat} (hf : hget H id = .free) {T : TypeId} {ag : Bool} {cs : List Cv} {u : Value} (hs : solid cs = true) (hv : VV S G (.v ag cs) u) : Does P S G H (Instr.box T u) w (.c (.ptr id 0 0 0)) [(id, .box T cs)] := by
  obtain ⟨us, h1, h2, _⟩ := solid_cells hF hs hv
  exact new_box hk hh hf h2 (run_box T u us h1 w)

/-! ### A row out of cells -/
/-- a new row, whose blocks come from rows that are handed over -/
theorem new_row (hk : Keeps S.O S.w0 w) (hh : Hs S G own H w) {id : Nat} (hf : hget H id = .free) {w1 : World} (hkw : Keeps (fun _ => False) w w1) (hsz : w1.heap.size = w.heap.size) {e : TypeId} {t : Ty} {xs : List t.D} {cells : Array Value} {bs : List Nat} {ids : List Nat} {cap : Nat} {s : Sem Value}
    (ho : OwE (OwT S.Fr w t) t.sz xs cells.toList bs) (hn : bs.Nodup) (hb : ∀ b ∈ bs, ∃ i ∈ ids, own b = some i) (hcap : xs.length ≤ cap) (hmax : cap ≤ 9223372036854775807) (hfit : cap * t.sz ≤ cells.size) (hid : id ∉ ids)
    (hr : s.run P w = .ok (.slice (some ⟨w.heap.size, 0, none⟩) xs.length cap) (w1.alloc (.cells cells e))) : Does P S G H s w (.c (.own id 0)) ((id, .row e t 0 0 none none xs) :: deads ids) := by
  have hfree := hh.obj id
  rw [hf] at hfree
  have hlt : ∀ b j, own b = some j → b < w.heap.size := fun b j h => (hh.own b j h).1
  have hold : ∀ b, b < w.heap.size → (w1.alloc (.cells cells e)).heap[b]? = w.heap[b]? := fun b hb => by
    rw [heap_alloc_old w1 _ (by omega)]
    exact hkw.block b hb (fun x => x)
  have hbl : ∀ b ∈ bs, b < w.heap.size := fun b h => by obtain ⟨i, _, hi⟩ := hb b h; exact hlt b i hi
  have hnew : (w1.alloc (.cells cells e)).heap[w.heap.size]? = some (.cells cells e (0, 0)) := by rw [← hsz]; exact heap_alloc_new w1 _
  obtain ⟨G', l, e1, _, hh'⟩ := put_row (w' := w1.alloc (.cells cells e)) (own' := give (kill own ids) (w.heap.size :: bs) id) (g := 0) (m := 0) (p := ⟨some w.heap.size, 0, t.sz, xs.length, cells.size, xs.length⟩) (e := e) (t := t) (ex := none) (xs := xs) (hh.kill ids) (.inl (hfree.1 0)) (fun g' _ => hfree.1 g') (fun g' m' _ i o => hfree.2 g' m' i o)
    rfl rfl (by simp) (fun b j hb _ => hold b (hlt b j (kill_some.1 hb).1)) (fun b j hb' _ => by
      unfold give
      split
      · rename_i hm
        exfalso
        have := (kill_some.1 hb')
        rcases List.mem_cons.1 hm with rfl | hm
        · have := hlt _ _ this.1; omega
        · obtain ⟨i, h1, h2⟩ := hb b hm
          rw [this.1] at h2
          simp at h2; subst h2
          exact this.2 h1
      · exact hb') (fun b j hb' => by
      unfold give at hb'
      rw [size_alloc, hsz]
      split at hb'
      · rename_i hm
        rcases List.mem_cons.1 hm with rfl | hm
        · exact ⟨by omega, .inr hk.size⟩
        · obtain ⟨i, h1, h2⟩ := hb b hm
          exact ⟨by have := hlt b i h2; omega, (hh.own b i h2).2⟩
      · exact ⟨by have := hlt b j (kill_some.1 hb').1; omega, (hh.own b j (kill_some.1 hb').1).2⟩)
    ⟨cells, bs, hnew, rfl, by
      have : xs.length * t.sz ≤ cap * t.sz := Nat.mul_le_mul_right _ hcap
      simp; omega, by simpa using ho.stay fun b h => hold b (hbl b h), List.nodup_cons.2 ⟨fun h => by have := hbl _ h; omega, hn⟩, fun x hx => by unfold give; rw [if_pos hx]⟩
  refine ⟨_, _, G', _, hr, l, ⟨⟨_, e1, ⟨0, cap, rfl, hcap, hmax, by simpa using hfit, fun _ => by simp⟩, _, _, _, rfl, by simpa using hcap⟩, trivial⟩, ?_, hh'.congr fun j => ?_⟩
  · have h1 : Keeps S.O S.w0 w1 := hk.step hkw fun _ x => x.elim
    exact h1.alloc _
  · simp only [hputs]
    rw [hget_deads, hget_hput, hget_hput, hget_deads]
    by_cases e : id = j
    · subst e
      rw [if_neg hid]; simp
    · simp [e]
end
end Go.Proofs.Ytgnnljpdcafdkaa.Ev

/- New rows: make, literals. -/
namespace Go.Proofs.Ytgnnljpdcafdkaa.Ev
open Go

theorem OwE.ofNil {α : Type} {Q : α → List Value → List Nat → Prop} {sz : Nat} : ∀ {xs : List α} {cs : List Value}, (∀ j x, xs[j]? = some x → Q x ((cs.drop (j * sz)).take sz) []) → OwE Q sz xs cs []
  | [], _, _ => rfl
  | x :: r, cs, h => ⟨[], [], rfl, by simpa using h 0 x rfl, OwE.ofNil fun j y hj => by
      have := h (j + 1) y (by simpa using hj)
      rw [List.drop_drop, show sz + j * sz = (j + 1) * sz by rw [Nat.add_mul]; omega]
      exact this⟩

theorem zeroVs_len : ∀ (t : Ty), (zeroVs t).length = t.sz
  | .int _ => rfl
  | .bool => rfl
  | .str => rfl
  | .unit => rfl
  | .pair a b => by simp [zeroVs, Ty.sz, zeroVs_len a, zeroVs_len b]
  | .st t => zeroVs_len t
  | .slice _ _ => rfl
  | .rs _ _ => rfl
  | .bx _ _ => rfl

theorem zero_ow {Fr : Frn} {w : World} : ∀ {t : Ty}, zok t = true → OwT Fr w t t.dflt (zeroVs t) []
  | .int _, _ => ⟨rfl, rfl⟩
  | .bool, _ => ⟨rfl, rfl⟩
  | .str, _ => ⟨rfl, rfl⟩
  | .unit, _ => ⟨rfl, rfl⟩
  | .pair a b, h => by
    simp [zok] at h
    exact ⟨_, _, [], [], rfl, rfl, zero_ow h.1, zero_ow h.2⟩
  | .st t, h => zero_ow (t := t) h
  | .slice _ _, _ => .inl ⟨rfl, rfl, rfl⟩
  | .rs _ _, h => by simp [zok] at h
  | .bx _ _, h => by simp [zok] at h

theorem made_part (zs : List Value) (n j : Nat) (hj : j < n) : ((madeCells zs.toArray (n * zs.length)).toList.drop (j * zs.length)).take zs.length = zs := by
  apply List.ext_getElem?
  intro i
  rw [List.getElem?_take]
  split
  · rename_i hi
    rw [List.getElem?_drop]
    have h1 : j * zs.length + i < n * zs.length := by
      have : (j + 1) * zs.length ≤ n * zs.length := Nat.mul_le_mul_right _ hj
      rw [Nat.add_mul] at this
      omega
    have h2 : (j * zs.length + i) % zs.length = i := by
      rw [Nat.mul_comm, Nat.mul_add_mod, Nat.mod_eq_of_lt hi]
    simp [madeCells, h1, h2, hi]
  · rename_i hi
    rw [List.getElem?_eq_none (by omega)]

section
variable {P : Program} {S : Sta} {G : Gh} {w : World} {own : Nat → Option Nat} {H : List Obj} {look : Nat → Obj}

theorem zrow_ow {Fr : Frn} {w : World} {t : Ty} (hz : zok t = true) (n : Nat) : OwE (OwT Fr w t) t.sz (List.replicate n t.dflt) (madeCells (zeroVs t).toArray (n * t.sz)).toList [] :=
  OwE.ofNil fun j x hj => by
    have hj' : j < n ∧ t.dflt = x := by
      rw [List.getElem?_replicate] at hj
      split at hj
      · exact ⟨by assumption, by simpa using hj⟩
      · cases hj
    rw [← hj'.2]
    have := made_part (zeroVs t) n j hj'.1
    rw [zeroVs_len] at this
    rw [this]
    exact zero_ow hz

theorem LIM_bytes (tt : TT) (e : TypeId) {n : Nat} (h : n ≤ LIM tt e) : n * tt.bytes e ≤ 140737488355328 := by
  unfold LIM at h
  exact Nat.le_trans (Nat.mul_le_mul_right _ h) (Nat.div_mul_le_self _ _)

theorem make_does {tt : TT} (ok : TTok P tt) (hk : Keeps S.O S.w0 w) (hh : Hs S G own H w) {id : Nat} (hf : hget H id = .free) {T e : TypeId} {t : Ty} (hT : tt.elem T = some e) (he : tt.shape e = some t) (hz : zok t = true) {ka kb : IntKind} {a : Int} (h0 : 0 ≤ a)
    (hl : a.toNat ≤ LIM tt e) (hm : a.toNat ≤ 9223372036854775807) : Does P S G H (Instr.makeSlice T (.int ka a) (.int kb a)) w (.c (.own id 0)) [(id, .row e t 0 0 none none (List.replicate a.toNat t.dflt))] := by
  obtain ⟨i, z, k1, k2, k3, k4, k5⟩ := ok.shape _ _ he
  have hb := LIM_bytes tt e hl
  have hr := run_make (P := P) w T e i z (ok.elem _ _ hT) k1 k4 ka kb a a h0 (Int.le_refl _) (by
    have h1 : a = (a.toNat : Int) := by omega
    rw [h1, k3, Int.mul_comm]
    have : ((a.toNat * tt.bytes e : Nat) : Int) ≤ 281474976710656 := by omega
    rwa [Int.natCast_mul] at this) (by omega)
  rw [k2, k5] at hr
  have := new_row (e := e) (t := t) (xs := List.replicate a.toNat t.dflt) (cells := madeCells (zeroVs t).toArray (a.toNat * t.sz)) (bs := []) (ids := []) (cap := a.toNat) (w1 := w) (s := Instr.makeSlice T (.int ka a) (.int kb a)) hk hh hf (Keeps.refl _ w) rfl
    (zrow_ow hz a.toNat) List.nodup_nil (fun b hb => by simp at hb) (by simp) hm (by rw [size_madeCells]; exact Nat.le_refl _) (by simp) (by simpa using hr)
  simpa [deads] using this

/-! ### Literals -/
theorem fold_set (off : Nat) : ∀ (vs : List Value) (k : Nat) (cells : Array Value), off + k + vs.length ≤ cells.size →
    ((vs.zipIdx k).foldl (fun cs (c, j) => cs.setIfInBounds (off + j) c) cells).toList = cells.toList.take (off + k) ++ vs ++ cells.toList.drop (off + k + vs.length)
  | [], k, cells, _ => by simp
  | v :: r, k, cells, h => by
    simp only [List.length_cons] at h
    rw [List.zipIdx_cons, List.foldl_cons, fold_set off r (k + 1) _ (by simp; omega)]
    have := list_seg_step cells.toList (off + k) v r (by simp; omega)
    rw [Array.toList_setIfInBounds, show off + (k + 1) = off + k + 1 by omega, this]
    simp [Nat.add_comm, Nat.add_left_comm]

theorem fill_step {place : Nat → Option (Nat × Nat)} {cells : Array Value} {i off sz : Nat} {v : Value} {us : List Value} (hp : place i = some (off, sz)) (hv : v.cells = us.toArray) (hl : us.length = sz) (hfit : off + sz ≤ cells.size) (rest : List (Nat × Value)) :
    Instr.fill place cells ((i, v) :: rest) = Instr.fill place (cells.toList.take off ++ us ++ cells.toList.drop (off + sz)).toArray rest := by
  rw [Instr.fill, hp]
  have h1 : ¬ (v.cells.size ≠ sz ∨ off + v.cells.size > cells.size) := by
    rw [hv]
    simp
    omega
  simp only
  rw [if_neg (by simpa using h1)]
  congr 1
  apply Array.ext'
  have := fold_set off us 0 cells (by omega)
  rw [hv]
  simp only [Nat.add_zero] at this
  rw [← hl]
  simpa [← Array.foldl_toList] using this

theorem OwT.one {Fr : Frn} (hF : ∀ e t xs u, Fr e t xs u → u.cells = #[u] ∧ u.oneCell' = true) : ∀ {t : Ty} {x : t.D} {cs : List Value} {bs : List Nat}, OwT Fr w t x cs bs → ∀ u ∈ cs, u.cells = #[u] ∧ u.oneCell' = true
  | .int _, _, _, _, h => by rw [h.1]; simp; exact ⟨rfl, rfl⟩
  | .bool, _, _, _, h => by rw [h.1]; simp; exact ⟨rfl, rfl⟩
  | .str, _, _, _, h => by rw [h.1]; simp; exact ⟨rfl, rfl⟩
  | .unit, _, _, _, h => by rw [h.1]; simp
  | .pair a b, _, _, _, ⟨c1, c2, b1, b2, e1, e2, h1, h2⟩ => by
    intro u hu
    rw [e1] at hu
    rcases List.mem_append.1 hu with hu | hu
    · exact OwT.one hF h1 u hu
    · exact OwT.one hF h2 u hu
  | .st t, x, _, _, h => OwT.one (t := t) hF h
  | .slice e t, _, _, _, .inl h => by rw [h.1]; simp; exact ⟨rfl, rfl⟩
  | .slice e t, _, _, _, .inr ⟨b, o, c, cur, b2, e1, _⟩ => by rw [e1]; simp; exact ⟨rfl, rfl⟩
  | .rs _ _, _, _, _, ⟨u, e1, h, _⟩ => by rw [e1]; simp; exact hF _ _ _ _ h
  | .bx T t, _, _, _, ⟨b, cur, b2, e1, _⟩ => by rw [e1]; simp; exact ⟨rfl, rfl⟩
theorem frOk_one (hF : S.FrOk) (e : TypeId) (t : Ty) (xs : List t.D) (u : Value) (h : S.Fr e t xs u) : u.cells = #[u] ∧ u.oneCell' = true := by
  obtain ⟨A, c, rfl, _⟩ := hF _ _ _ _ h
  exact ⟨rfl, rfl⟩

theorem ow_cells (hF : S.FrOk) {t : Ty} {ag : Bool} {cs : List Cv} {u : Value} {us : List Value} (h : VA S G ag cs u) : VV S G (.v ag cs) u := h

/-- the cells of a value, whole -/
theorem va_us {ag : Bool} {cs : List Cv} {u : Value} (h : VA S G ag cs u) : ∃ us, VL S G cs us ∧ ((∀ x ∈ us, x.cells = #[x]) → u.cells = us.toArray) := by
  cases ag with
  | true => obtain ⟨us, rfl, h1⟩ := h; exact ⟨us, h1, fun _ => rfl⟩
  | false => exact ⟨[u], h, fun hx => hx u (by simp)⟩

def PV (S : Sta) (G : Gh) : List (Nat × LV) → List (Nat × Value) → Prop
  | [], [] => True
  | p :: r, q :: s => (p.1 = q.1 ∧ VV S G p.2 q.2) ∧ PV S G r s
  | _, _ => False

/-- the parts of a literal, closed -/
theorem elems_ow (hF : S.FrOk) (hh : Hs S G own H w) (hl : LookOk look H) {t : Ty} : ∀ {n : Nat} {ps : List (Nat × LV)} {vs : List (Nat × Value)} {xs : List t.D} {ids : List Nat},
    elemsOf look t n ps = some (xs, ids) → PV S G ps vs → ids.Nodup →
    ∃ cells bs, OwE (OwT S.Fr w t) t.sz xs cells bs ∧ bs.Nodup ∧ (∀ b ∈ bs, ∃ i ∈ ids, own b = some i) ∧ cells.length = xs.length * t.sz ∧ xs.length = vs.length ∧
      ∀ (pre : List Value) (base : Array Value), pre.length = n * t.sz → base.size = (n + vs.length) * t.sz → base.toList.take (n * t.sz) = pre → Instr.fill (fun i => some (i * t.sz, t.sz)) base vs = some (pre ++ cells).toArray
  | n, [], vs, xs, ids, h, hv, _ => by
    have : vs = [] := by
      cases vs with
      | nil => rfl
      | cons _ _ => exact hv.elim
    subst this
    simp [elemsOf] at h
    obtain ⟨rfl, rfl⟩ := h
    refine ⟨[], [], rfl, List.nodup_nil, fun b hb => by simp at hb, by simp, rfl, fun pre base h1 h2 h3 => ?_⟩
    simp only [Instr.fill, List.append_nil]
    rw [← h3, List.take_of_length_le (by simp at h2 ⊢; omega)]
  | n, (i, v) :: r, vs, xs, ids, h, hv, hn => by
    match vs, hv with
    | (i', u) :: vs', ⟨⟨e1, e2⟩, hr⟩ =>
      simp at e1; subst e1
      unfold elemsOf at h
      split at h
      · rename_i hi
        subst hi
        split at h
        · rename_i ag cs
          split at h
          · rename_i hag
            split at h
            · rename_i x is htk
              split at h
              · rename_i ys js hrest
                simp at h
                obtain ⟨rfl, rfl⟩ := h
                rw [app_eq] at hn
                have hn' := List.nodup_append.1 hn
                obtain ⟨us, hus, huc⟩ := va_us e2
                obtain ⟨c1, u1, u2, b1, q1, q2, q3, q4, q5, q6⟩ := tkC_ow hh hl htk hus hn'.1
                have := VL_nil q4
                subst this
                rw [List.append_nil] at q2
                subst q2
                have hone := OwT.one (frOk_one hF) q3
                have huc' := huc fun x hx => (hone x hx).1
                obtain ⟨cells, b2, m1, m2, m3, m4, m5, m6⟩ := elems_ow hF hh hl hrest hr hn'.2.1
                have hlen := q3.len
                refine ⟨us ++ cells, b1 ++ b2, ⟨b1, b2, rfl, by rw [← hlen, List.take_left]; exact q3, by rw [← hlen, List.drop_left, hlen]; exact m1⟩, List.nodup_append.2 ⟨q5, m2, fun x hx y hy e => ?_⟩, fun b hb => ?_, ?_, by simp [m5], fun pre base h1 h2 h3 => ?_⟩
                · subst e
                  obtain ⟨i1, hi1, e3⟩ := q6 x hx
                  obtain ⟨i2, hi2, e4⟩ := m3 x hy
                  rw [e3] at e4
                  simp at e4; subst e4
                  exact hn'.2.2 i1 hi1 i1 hi2 rfl
                · rw [app_eq]
                  rcases List.mem_append.1 hb with hb | hb
                  · obtain ⟨i1, hi1, e3⟩ := q6 b hb; exact ⟨i1, by simp [hi1], e3⟩
                  · obtain ⟨i1, hi1, e3⟩ := m3 b hb; exact ⟨i1, by simp [hi1], e3⟩
                · rw [List.length_append, hlen, m4, List.length_cons, Nat.add_mul]; omega
                · have hsz : i * t.sz + t.sz ≤ base.size := by
                    rw [h2, List.length_cons, Nat.add_mul, Nat.add_mul]; omega
                  rw [fill_step (by rfl) huc' hlen hsz]
                  have e5 : (i + 1) * t.sz = i * t.sz + t.sz := by rw [Nat.add_mul]; omega
                  have := m6 (pre ++ us) (base.toList.take (i * t.sz) ++ us ++ base.toList.drop (i * t.sz + t.sz)).toArray (by rw [List.length_append, h1, hlen, e5]) (by
                    have h4 := seg_size base (i * t.sz) us (by omega)
                    rw [hlen] at h4
                    rw [h4, h2, List.length_cons]
                    congr 1; omega) (by
                    rw [h3, e5]
                    simp only
                    rw [List.take_append_of_le_length (by rw [List.length_append]; omega), List.take_of_length_le (by rw [List.length_append]; omega)])
                  rw [this]
                  simp
              · cases h
            · cases h
          · cases h
        · cases h
      · cases h
end
end Go.Proofs.Ytgnnljpdcafdkaa.Ev

/- Literals. -/
namespace Go.Proofs.Ytgnnljpdcafdkaa.Ev
open Go

theorem creplace_eq : ∀ (cs : List Cv) (off : Nat) (ns : List Cv), off + ns.length ≤ cs.length → creplace cs off ns = cs.take off ++ ns ++ cs.drop (off + ns.length)
  | [], 0, [], _ => rfl
  | [], 0, _ :: _, h => by simp at h
  | [], k + 1, _, h => by simp at h
  | c :: r, 0, [], _ => rfl
  | c :: r, 0, n :: ns, h => by
    have := creplace_eq r 0 ns (by simp at h ⊢; omega)
    simp only [creplace, this]
    simp
  | c :: r, k + 1, ns, h => by
    have := creplace_eq r k ns (by simp at h ⊢; omega)
    simp only [creplace, this]
    simp [show k + 1 + ns.length = (k + ns.length) + 1 by omega]

section
variable {P : Program} {S : Sta} {G : Gh} {w : World} {own : Nat → Option Nat} {H : List Obj} {look : Nat → Obj}

theorem VL_replace {cs ns : List Cv} {us vs : List Value} {off : Nat} (h1 : VL S G cs us) (h2 : VL S G ns vs) (hf : off + vs.length ≤ us.length) : VL S G (creplace cs off ns) (us.take off ++ vs ++ us.drop (off + vs.length)) := by
  have e1 := VL_len h1
  have e2 := VL_len h2
  rw [creplace_eq _ _ _ (by omega), e2]
  exact VL_append (VL_append (VL_take off h1) h2) (VL_drop _ h1)

theorem tkC_live : ∀ {t : Ty} {cs r : List Cv} {x : t.D} {ids : List Nat}, tkC look t cs = some (x, r, ids) → ∀ i ∈ ids, look i ≠ .free
  | .int _, _, _, _, _, h => by rw [(noIds_some h).2]; simp
  | .bool, _, _, _, _, h => by rw [(noIds_some h).2]; simp
  | .str, _, _, _, _, h => by rw [(noIds_some h).2]; simp
  | .unit, _, _, _, _, h => by simp [tkC] at h; rw [h.2]; simp
  | .pair a b, cs, r, x, ids, h => by
    obtain ⟨r1, i, j, h1, h2, rfl⟩ := tkC_pair h
    intro k hk
    rcases List.mem_append.1 hk with hk | hk
    · exact tkC_live h1 k hk
    · exact tkC_live h2 k hk
  | .st t, _, _, _, _, h => tkC_live (t := t) h
  | .slice e t, cs, r, x, ids, h => by
    rcases chTk_some h with ⟨_, _, rfl⟩ | ⟨id, gen, _, rfl, h1⟩ | ⟨id, gen, off, len, _, rfl, h1⟩
    · simp
    · obtain ⟨m, ex, hlk⟩ := rdS_own h1
      intro i hi
      simp at hi; subst hi
      rw [hlk]; simp
    · obtain ⟨m, ex, ys, hlk, _⟩ := rdS_part h1
      intro i hi
      simp at hi; subst hi
      rw [hlk]; simp
  | .rs _ _, _, _, _, _, h => by rw [(noIds_some h).2]; simp
  | .bx T t, cs, r, x, ids, h => by
    unfold tkC at h
    split at h
    · rename_i id r' hc
      split at h
      · rename_i ds hb
        split at h
        · rename_i y is ht
          simp at h
          obtain ⟨rfl, rfl, rfl⟩ := h
          intro i hi
          rcases List.mem_cons.1 hi with rfl | hi
          · rw [boxOf_some hb]; simp
          · exact tkC_live (t := t) ht i hi
        · cases h
      · cases h
    · cases h

theorem elems_live {t : Ty} : ∀ {n : Nat} {ps : List (Nat × LV)} {xs : List t.D} {ids : List Nat}, elemsOf look t n ps = some (xs, ids) → ∀ i ∈ ids, look i ≠ .free
  | n, [], xs, ids, h => by simp [elemsOf] at h; rw [h.2]; simp
  | n, (i, v) :: r, xs, ids, h => by
    unfold elemsOf at h
    split at h
    · split at h
      · split at h
        · split at h
          · rename_i x is htk
            split at h
            · rename_i ys js hrest
              simp at h
              obtain ⟨rfl, rfl⟩ := h
              rw [app_eq]
              intro k hk
              rcases List.mem_append.1 hk with hk | hk
              · exact tkC_live htk k hk
              · exact elems_live hrest k hk
            · cases h
          · cases h
        · cases h
      · cases h
    · cases h

theorem PV_len : ∀ {ps : List (Nat × LV)} {vs : List (Nat × Value)}, PV S G ps vs → vs.length = ps.length
  | [], [], _ => rfl
  | _ :: _, _ :: _, h => by simp [PV_len h.2]
  | [], _ :: _, h => h.elim
  | _ :: _, [], h => h.elim

theorem buildSlice_does {tt : TT} (ok : TTok P tt) (hF : S.FrOk) (hk : Keeps S.O S.w0 w) (hh : Hs S G own H w) (hl : LookOk look H) {id : Nat} (hf : hget H id = .free) {T e : TypeId} {t : Ty} (hT : tt.elem T = some e) (he : tt.shape e = some t)
    {ps : List (Nat × LV)} {vs : List (Nat × Value)} {n : Nat} {xs : List t.D} {ids : List Nat} (h : elemsOf look t 0 ps = some (xs, ids)) (hv : PV S G ps vs) (hn : ids.Nodup) (hlen : ps.length = n) (hsz : n * t.sz ≤ 16777216) (hmax : n ≤ 9223372036854775807) :
    Does P S G H (Instr.buildSlice T n vs.toArray) w (.c (.own id 0)) ((id, .row e t 0 0 none none xs) :: deads ids) := by
  obtain ⟨cells, bs, m1, m2, m3, m4, m5, m6⟩ := elems_ow hF hh hl h hv hn
  obtain ⟨i, z, k1, k2, k3, k4, k5⟩ := ok.shape _ _ he
  have hvl := PV_len hv
  have hxn : xs.length = n := by rw [m5, hvl, hlen]
  have hfill : ∀ base : Array Value, base.size = n * t.sz → Instr.fill (fun i => some (i * t.sz, t.sz)) base vs = some cells.toArray := fun base hb => by
    have := m6 [] base (by simp) (by rw [hb, hvl, hlen]; simp) (by simp)
    simpa using this
  have hs1 : ¬ n * t.sz > 2 ^ 24 := by omega
  have hr : (Instr.buildSlice T n vs.toArray).run P w = .ok (.slice (some ⟨w.heap.size, 0, none⟩) n n) (w.alloc (.cells cells.toArray e)) := by
    by_cases h0 : n * t.sz = 0
    · have := hfill #[] (by simp [h0])
      have hlt : ¬ 16777216 < n * t.sz := by omega
      have hr0 : Array.range (n * t.sz) = #[] := by rw [h0]; rfl
      simp [Instr.buildSlice, run_underlying (ok.elem _ _ hT), sizeOf, typeInfo, k1, k2, hlt, hr0, this, newRow]
      exact fun hx => absurd h0 hx
    · have := hfill ((Array.range (n * t.sz)).map (z.cells[· % z.cells.size]!)) (by simp)
      exact Go.run_buildSlice w T e n vs.toArray cells.toArray i z (ok.elem _ _ hT) k1 k4 (by rw [k2]; exact hs1) (by rw [k2]; exact h0) (by rw [k2]; simpa using this)
  exact new_row (w1 := w) (cap := n) hk hh hf (Keeps.refl _ w) rfl (cells := cells.toArray) (by simpa using m1) m2 m3 (by omega) hmax (by simp [m4, hxn]) (fun hid => by
    have := elems_live h id hid
    rcases hl id with x | x
    · exact this x
    · rw [x] at this; exact this hf) (by rw [hxn]; exact hr)

/-! ### Structs -/
theorem mapM_places (fs : List Field) (h : ∀ f ∈ fs, ∃ i, P.info? f.type = some i) : ∃ pl, fs.mapM (fun f => (P.info? f.type).map fun i => (f.offset, i.size)) = some pl ∧ ∀ (k : Nat) fd, fs[k]? = some fd → ∃ i, P.info? fd.type = some i ∧ pl[k]? = some (fd.offset, i.size) := by
  induction fs with
  | nil => exact ⟨[], by simp, fun k fd hk => by simp at hk⟩
  | cons f r ih =>
    obtain ⟨i, hi⟩ := h f (by simp)
    obtain ⟨pl, h1, h2⟩ := ih fun f hf => h f (by simp [hf])
    refine ⟨(f.offset, i.size) :: pl, by simp [List.mapM_cons, hi, h1], fun k fd hk => ?_⟩
    cases k with
    | zero => simp at hk; subst hk; exact ⟨i, hi, rfl⟩
    | succ k => exact h2 k fd (by simpa using hk)

theorem build_fill {tt : TT} (ok : TTok P tt) (hF : S.FrOk) {T : TypeId} {t : Ty} (hT : tt.shape T = some t) {fs : Array Field} (hu : P.underlying T = some (.struct fs)) {pl : List (Nat × Nat)} (hpl : ∀ (k : Nat) fd, fs.toList[k]? = some fd → ∃ i, P.info? fd.type = some i ∧ pl[k]? = some (fd.offset, i.size))
    {F : List LV} {ev : Operand → Value} (hev : ∀ x, VV S G (opv F x) (ev x)) {E : Env} (hE : E.tt = tt) : ∀ {parts : List (Nat × Operand)} {ps : List (Nat × List Cv)} {cs : List Cv} {us : List Value}, aopK.placeP E (opv F) T parts = some ps → VL S G cs us → us.length = t.sz →
    ∃ us', Instr.fill (pl.toArray[·]?) us.toArray (parts.map fun (i, x) => (i, ev x)) = some us'.toArray ∧ VL S G (fillC cs ps) us' ∧ us'.length = t.sz
  | [], ps, cs, us, h, hv, hl => by
    simp [aopK.placeP] at h; subst h
    exact ⟨us, rfl, hv, hl⟩
  | (i, x) :: r, ps, cs, us, h, hv, hl => by
    unfold aopK.placeP at h
    split at h
    · rename_i o t' ag ds ps' h1 h2 h3
      split at h
      · rename_i hag
        split at h
        · rename_i hlen
          split at h
          · rename_i hs
            simp at h; subst h
            have hx := hev x
            rw [h2] at hx
            obtain ⟨vs, q1, q2, q3⟩ := solid_cells hF hs hx
            rw [hE] at h1
            obtain ⟨fs', fd, k1, k2, k3, k4⟩ := ok.field _ _ _ _ h1
            rw [hu] at k1
            simp at k1; subst k1
            obtain ⟨inf, m1, m2⟩ := hpl i fd (by simpa using k2)
            obtain ⟨inf', z, n1, n2, _⟩ := ok.shape _ _ k4
            rw [m1] at n1
            simp at n1; subst n1
            have hvs : vs.length = t'.sz := by rw [VL_len q2]; rw [llen_eq] at hlen; exact hlen
            have hfit := ok.fits _ _ _ _ _ h1 hT
            rw [List.map_cons]
            have hstep := fill_step (place := (pl.toArray[·]?)) (cells := us.toArray) (i := i) (off := o) (sz := t'.sz) (v := ev x) (us := vs) (by simp [m2, k3, n2]) q1 hvs (by simp; omega) (r.map fun (i, x) => (i, ev x))
            have hlen2 : (us.take o ++ vs ++ us.drop (o + t'.sz)).length = t.sz := by
              simp
              omega
            have := VL_replace (off := o) hv q2 (by omega)
            rw [hvs] at this
            obtain ⟨us', e1, e2, e3⟩ := build_fill ok hF hT hu hpl hev hE h3 this hlen2
            exact ⟨us', by rw [hstep]; exact e1, e2, e3⟩
          · cases h
        · cases h
      · cases h
    · cases h

theorem build_does {tt : TT} (ok : TTok P tt) (hF : S.FrOk) {T : TypeId} {t : Ty} (hT : tt.shape T = some (.st t)) {fs : Array Field} (hu : P.underlying T = some (.struct fs)) {F : List LV} {ev : Operand → Value} (hev : ∀ x, VV S G (opv F x) (ev x)) {E : Env} (hE : E.tt = tt)
    {parts : Array (Nat × Operand)} {ps : List (Nat × List Cv)} (h : aopK.placeP E (opv F) T parts.toList = some ps) : Gives P S G (Instr.build T (parts.map fun (i, x) => (i, ev x))) w (.v true (fillC (zeroC t) ps)) := by
  obtain ⟨it, z, k1, k2, k3, k4, k5⟩ := ok.shape _ _ hT
  obtain ⟨pl, p1, p2⟩ := mapM_places fs.toList (ok.infos _ _ _ hT hu)
  obtain ⟨us', e1, e2, e3⟩ := build_fill ok hF hT hu p2 hev hE (us := zeroVs t) h (zero_vl t) (zeroVs_len t)
  refine ⟨_, Go.run_build w T _ us'.toArray ?_, us', rfl, e2⟩
  unfold Program.built
  simp only [k1, hu, k4, p1]
  rw [k5, show zeroVs (.st t) = zeroVs t from rfl]
  simpa using e1
end
end Go.Proofs.Ytgnnljpdcafdkaa.Ev

/- Stores. -/
namespace Go.Proofs.Ytgnnljpdcafdkaa.Ev
open Go

/-- closed cells, with their values and the blocks behind them -/
def ER (Fr : Frn) (w : World) : List Ec → List Value → List Nat → Prop
  | [], cs, bs => cs = [] ∧ bs = []
  | e :: r, cs, bs => ∃ u us b1 b2, cs = u :: us ∧ bs = b1 ++ b2 ∧ (match e with
    | .int k n => u = .int k n ∧ b1 = []
    | .bool b => u = .bool b ∧ b1 = []
    | .str s => u = .string s ∧ b1 = []
    | .sl e t xs => OwT Fr w (.slice e t) xs [u] b1
    | .rs e t xs => Fr e t xs u ∧ b1 = []
    | .hole => True) ∧ ER Fr w r us b2

theorem ER.append {Fr : Frn} {w : World} : ∀ {es fs : List Ec} {us vs : List Value} {b1 b2 : List Nat}, ER Fr w es us b1 → ER Fr w fs vs b2 → ER Fr w (es ++ fs) (us ++ vs) (b1 ++ b2)
  | [], _, _, _, _, _, ⟨h1, h2⟩, h => by rw [h1, h2]; exact h
  | e :: r, _, _, _, _, _, ⟨u, us, c1, c2, h1, h2, h3, h4⟩, h => by
    rw [h1, h2]
    exact ⟨u, us ++ _, c1, c2 ++ _, rfl, by simp, h3, ER.append h4 h⟩

theorem OwT.er {Fr : Frn} {w : World} : ∀ {t : Ty} {x : t.D} {cs : List Value} {bs : List Nat}, OwT Fr w t x cs bs → ER Fr w (toE t x) cs bs
  | .int _, _, _, _, h => ⟨_, [], [], [], h.1, h.2, ⟨rfl, rfl⟩, rfl, rfl⟩
  | .bool, _, _, _, h => ⟨_, [], [], [], h.1, h.2, ⟨rfl, rfl⟩, rfl, rfl⟩
  | .str, _, _, _, h => ⟨_, [], [], [], h.1, h.2, ⟨rfl, rfl⟩, rfl, rfl⟩
  | .unit, _, _, _, h => h
  | .pair a b, _, _, _, ⟨c1, c2, b1, b2, e1, e2, h1, h2⟩ => by rw [e1, e2]; exact ER.append (OwT.er h1) (OwT.er h2)
  | .st t, x, _, _, h => OwT.er (t := t) h
  | .slice e t, xs, cs, bs, h => by
    have hl := h.len
    match cs, hl with
    | [u], _ => exact ⟨u, [], bs, [], rfl, by simp, h, rfl, rfl⟩
    | [], hl => simp [Ty.sz] at hl
    | _ :: _ :: _, hl => simp [Ty.sz] at hl
  | .rs _ _, _, _, _, ⟨u, e1, h, e2⟩ => ⟨u, [], [], [], e1, e2, ⟨h, rfl⟩, rfl, rfl⟩
  | .bx T t, _, _, bs, ⟨b, cur, b2, e1, _⟩ => ⟨_, [], bs, [], e1, by simp, trivial, rfl, rfl⟩

theorem ehInt_some {k : IntKind} {cs r : List Ec} {n : Int} (h : ehInt k cs = some (n, r)) : cs = .int k n :: r := by
  unfold ehInt at h
  split at h
  · split at h
    · rename_i e; simp at h; rw [e, h.1, h.2]
    · cases h
  · cases h
theorem ehBool_some {cs r : List Ec} {b : Bool} (h : ehBool cs = some (b, r)) : cs = .bool b :: r := by
  unfold ehBool at h
  split at h
  · simp at h; rw [h.1, h.2]
  · cases h
theorem ehStr_some {cs r : List Ec} {s : ByteArray} (h : ehStr cs = some (s, r)) : cs = .str s :: r := by
  unfold ehStr at h
  split at h
  · simp at h; rw [h.1, h.2]
  · cases h
theorem ehSl_some {e : TypeId} {t : Ty} {cs r : List Ec} {xs : List t.D} (h : ehSl e t cs = some (xs, r)) : cs = .sl e t xs :: r := by
  unfold ehSl at h
  split at h
  · split at h
    · rename_i e'
      obtain ⟨rfl, rfl⟩ := e'
      simp [castL] at h; rw [h.1, h.2]
    · cases h
  · cases h
theorem ehRs_some {e : TypeId} {t : Ty} {cs r : List Ec} {xs : List t.D} (h : ehRs e t cs = some (xs, r)) : cs = .rs e t xs :: r := by
  unfold ehRs at h
  split at h
  · split at h
    · rename_i e'
      obtain ⟨rfl, rfl⟩ := e'
      simp [castL] at h; rw [h.1, h.2]
    · cases h
  · cases h
theorem ofE_pair {a b : Ty} {cs r : List Ec} {x : (Ty.pair a b).D} (h : ofE (.pair a b) cs = some (x, r)) : ∃ r1, ofE a cs = some (x.1, r1) ∧ ofE b r1 = some (x.2, r) := by
  unfold ofE at h
  split at h
  · rename_i y r1 h1
    split at h
    · rename_i z r2 h2
      simp at h
      obtain ⟨rfl, rfl⟩ := h
      exact ⟨r1, h1, h2⟩
    · cases h
  · cases h

theorem ofE_toE : ∀ {t : Ty} {cs r : List Ec} {x : t.D}, ofE t cs = some (x, r) → cs = toE t x ++ r
  | .int _, _, _, _, h => ehInt_some h
  | .bool, _, _, _, h => ehBool_some h
  | .str, _, _, _, h => ehStr_some h
  | .unit, _, _, _, h => by simp [ofE] at h; subst h; rfl
  | .pair a b, cs, r, x, h => by
    obtain ⟨r1, h1, h2⟩ := ofE_pair h
    rw [ofE_toE h1, ofE_toE h2]
    simp [toE]
  | .st t, _, _, _, h => ofE_toE (t := t) h
  | .slice _ _, _, _, _, h => ehSl_some h
  | .rs _ _, _, _, _, h => ehRs_some h
  | .bx _ _, _, _, _, h => by simp [ofE] at h

theorem ER.ow {Fr : Frn} {w : World} : ∀ {t : Ty} {es r : List Ec} {x : t.D} {cs : List Value} {bs : List Nat}, ofE t es = some (x, r) → ER Fr w es cs bs → ∃ c1 c2 b1 b2, cs = c1 ++ c2 ∧ bs = b1 ++ b2 ∧ OwT Fr w t x c1 b1 ∧ ER Fr w r c2 b2
  | .int _, es, r, x, cs, bs, h, he => by
    rw [ehInt_some h] at he
    obtain ⟨u, us, b1, b2, rfl, rfl, ⟨rfl, rfl⟩, h4⟩ := he
    exact ⟨[_], us, [], b2, rfl, rfl, ⟨rfl, rfl⟩, h4⟩
  | .bool, es, r, x, cs, bs, h, he => by
    rw [ehBool_some h] at he
    obtain ⟨u, us, b1, b2, rfl, rfl, ⟨rfl, rfl⟩, h4⟩ := he
    exact ⟨[_], us, [], b2, rfl, rfl, ⟨rfl, rfl⟩, h4⟩
  | .str, es, r, x, cs, bs, h, he => by
    rw [ehStr_some h] at he
    obtain ⟨u, us, b1, b2, rfl, rfl, ⟨rfl, rfl⟩, h4⟩ := he
    exact ⟨[_], us, [], b2, rfl, rfl, ⟨rfl, rfl⟩, h4⟩
  | .unit, es, r, x, cs, bs, h, he => by
    simp [ofE] at h; subst h
    exact ⟨[], cs, [], bs, rfl, rfl, ⟨rfl, rfl⟩, he⟩
  | .pair a b, es, r, x, cs, bs, h, he => by
    obtain ⟨r1, h1, h2⟩ := ofE_pair h
    obtain ⟨c1, c2, b1, b2, rfl, rfl, k1, e1⟩ := ER.ow h1 he
    obtain ⟨c3, c4, b3, b4, rfl, rfl, k2, e2⟩ := ER.ow h2 e1
    exact ⟨c1 ++ c3, c4, b1 ++ b3, b4, by simp, by simp, ⟨_, _, _, _, rfl, rfl, k1, k2⟩, e2⟩
  | .st t, es, r, x, cs, bs, h, he => ER.ow (t := t) h he
  | .slice _ _, es, r, x, cs, bs, h, he => by
    rw [ehSl_some h] at he
    obtain ⟨u, us, b1, b2, rfl, rfl, h3, h4⟩ := he
    exact ⟨[u], us, b1, b2, rfl, rfl, h3, h4⟩
  | .rs _ _, es, r, x, cs, bs, h, he => by
    rw [ehRs_some h] at he
    obtain ⟨u, us, b1, b2, rfl, rfl, ⟨h3, rfl⟩, h4⟩ := he
    exact ⟨[u], us, [], b2, rfl, rfl, ⟨u, rfl, h3, rfl⟩, h4⟩
  | .bx _ _, _, _, _, _, _, h, _ => by simp [ofE] at h

/-- flat cells laid over -/
theorem ER.flat {S : Sta} {G : Gh} {w : World} : ∀ {es : List Ec} {cs : List Value} {bs : List Nat} {off : Nat} {ds : List Cv} {fs : List Ec} {vs : List Value}, ER S.Fr w es cs bs → allFlat ds = some fs → VL S G ds vs → off + fs.length ≤ es.length →
    ∃ bs', bs'.Sublist bs ∧ ER S.Fr w (ereplace es off fs) (cs.take off ++ vs ++ cs.drop (off + vs.length)) bs' := by
  have flatHead : ∀ {ds : List Cv} {fs : List Ec} {vs : List Value}, allFlat ds = some fs → VL S G ds vs → (ds = [] ∧ fs = [] ∧ vs = []) ∨
      ∃ d ds' f fs' v vs', ds = d :: ds' ∧ fs = f :: fs' ∧ vs = v :: vs' ∧ allFlat ds' = some fs' ∧ VL S G ds' vs' ∧ ∀ (Fr : Frn) (w : World) r us b2, ER Fr w r us b2 → ER Fr w (f :: r) (v :: us) b2 := by
    intro ds fs vs h hv
    cases ds with
    | nil => simp [allFlat] at h; exact .inl ⟨rfl, by simpa using h, VL_nil hv⟩
    | cons d ds' =>
      obtain ⟨v, vs', rfl, h1, h2⟩ := VL_cons hv
      cases d <;> simp only [allFlat] at h <;> try cases h
      all_goals
        split at h
        · rename_i fs' hf
          simp at h; subst h
          exact .inr ⟨_, ds', _, fs', v, vs', rfl, rfl, rfl, hf, h2, fun Fr w r us b2 hr => ⟨v, us, [], b2, rfl, rfl, ⟨h1, rfl⟩, hr⟩⟩
        · cases h
  intro es
  induction es with
  | nil =>
    intro cs bs off ds fs vs he hf hv hl
    rcases flatHead hf hv with ⟨rfl, rfl, rfl⟩ | ⟨d, ds', f, fs', v, vs', rfl, rfl, rfl, _⟩
    · have : off = 0 := by simp at hl; exact hl
      subst this
      exact ⟨bs, List.Sublist.refl _, by simpa [ereplace] using he⟩
    · simp at hl
  | cons e r ih =>
    intro cs bs off ds fs vs he hf hv hl
    have he0 := he
    obtain ⟨u, us, b1, b2, rfl, rfl, h3, h4⟩ := he
    cases off with
    | zero =>
      rcases flatHead hf hv with ⟨rfl, rfl, rfl⟩ | ⟨d, ds', f, fs', v, vs', rfl, rfl, rfl, k1, k2, k3⟩
      · exact ⟨_, List.Sublist.refl _, by simpa [ereplace] using he0⟩
      · obtain ⟨bs', s, m⟩ := ih (off := 0) h4 k1 k2 (by simp at hl ⊢; omega)
        refine ⟨bs', s.trans (List.sublist_append_right _ _), ?_⟩
        simp only [ereplace]
        have := k3 _ _ _ _ _ m
        simpa using this
    | succ k =>
      obtain ⟨bs', s, m⟩ := ih (off := k) h4 hf hv (by simp at hl ⊢; omega)
      refine ⟨b1 ++ bs', List.Sublist.append (List.Sublist.refl _) s, ?_⟩
      have e1 : (u :: us).take (k + 1) ++ vs ++ (u :: us).drop (k + 1 + vs.length) = u :: (us.take k ++ vs ++ us.drop (k + vs.length)) := by
        rw [show k + 1 + vs.length = (k + vs.length) + 1 by omega]
        simp
      have e2 : ereplace (e :: r) (k + 1) fs = e :: ereplace r k fs := by cases fs <;> rfl
      rw [e1, e2]
      exact ⟨u, _, b1, bs', rfl, rfl, h3, m⟩
end Go.Proofs.Ytgnnljpdcafdkaa.Ev

/- Stores, joined. -/
namespace Go.Proofs.Ytgnnljpdcafdkaa.Ev
open Go

theorem seg_in {α : Type} (L vs : List α) (base a off sz : Nat) (h1 : off + vs.length ≤ sz) (h2 : base + a + sz ≤ L.length) :
    (L.take (base + a + off) ++ vs ++ L.drop (base + a + off + vs.length)).drop base =
      (L.drop base).take a ++ ((((L.drop base).drop a).take sz).take off ++ vs ++ (((L.drop base).drop a).take sz).drop (off + vs.length)) ++ (L.drop base).drop (a + sz) := by
  apply List.ext_getElem?
  intro i
  have e1 : min (base + a + off) L.length = base + a + off := by omega
  have e2 : min a (L.length - base) = a := by omega
  have e3 : min sz (L.length - base - a) = sz := by omega
  have e4 : min off sz = off := by omega
  simp only [List.getElem?_drop, List.getElem?_append, List.length_append, List.length_take, List.length_drop, List.getElem?_take, e1, e2, e3, e4]
  by_cases c1 : i < a
  · have d1 : base + i < base + a + off + vs.length := by omega
    have d2 : base + i < base + a + off := by omega
    have d3 : i < a + (off + vs.length + (sz - (off + vs.length))) := by omega
    simp [c1, d1, d2, d3]
  · by_cases c2 : i < a + off
    · have d1 : base + i < base + a + off + vs.length := by omega
      have d2 : base + i < base + a + off := by omega
      have d3 : i < a + (off + vs.length + (sz - (off + vs.length))) := by omega
      have d4 : i - a < off + vs.length := by omega
      have d5 : i - a < off := by omega
      have d6 : i - a < sz := by omega
      have d7 : base + (a + (i - a)) = base + i := by omega
      simp [c1, d1, d2, d3, d4, d5, d6, d7]
    · by_cases c3 : i < a + off + vs.length
      · have d1 : base + i < base + a + off + vs.length := by omega
        have d2 : ¬ base + i < base + a + off := by omega
        have d3 : i < a + (off + vs.length + (sz - (off + vs.length))) := by omega
        have d4 : i - a < off + vs.length := by omega
        have d5 : ¬ i - a < off := by omega
        have d6 : base + i - (base + a + off) = i - a - off := by omega
        simp [c1, d1, d2, d3, d4, d5, d6]
      · have d1 : ¬ base + i < base + a + off + vs.length := by omega
        have d4 : ¬ i - a < off + vs.length := by omega
        by_cases c4 : i < a + sz
        · have d3 : i < a + (off + vs.length + (sz - (off + vs.length))) := by omega
          have d5 : off + vs.length + (i - a - (off + vs.length)) < sz := by omega
          have d6 : base + (a + (off + vs.length + (i - a - (off + vs.length)))) = base + a + off + vs.length + (base + i - (base + a + off + vs.length)) := by omega
          simp [c1, d1, d3, d4, d5, d6]
        · have d3 : ¬ i < a + (off + vs.length + (sz - (off + vs.length))) := by omega
          have d6 : base + (a + sz + (i - (a + (off + vs.length + (sz - (off + vs.length)))))) = base + a + off + vs.length + (base + i - (base + a + off + vs.length)) := by omega
          simp [d1, d3, d6]

theorem OwE.set {α : Type} {Q : α → List Value → List Nat → Prop} {sz : Nat} : ∀ {xs : List α} {cs : List Value} {bs : List Nat} {idx : Nat} {x y : α} {new : List Value}, OwE Q sz xs cs bs → xs[idx]? = some x → new.length = sz → idx * sz + sz ≤ cs.length →
    (∀ b, Q x ((cs.drop (idx * sz)).take sz) b → ∃ b', b'.Sublist b ∧ Q y new b') → ∃ bs', bs'.Sublist bs ∧ OwE Q sz (xs.set idx y) (cs.take (idx * sz) ++ new ++ cs.drop (idx * sz + sz)) bs'
  | [], _, _, _, _, _, _, _, h, _, _, _ => by simp at h
  | z :: r, cs, bs, 0, x, y, new, ⟨b1, b2, hb, h1, h2⟩, h, hn, hl, hq => by
    simp at h; subst h
    obtain ⟨b', s, k⟩ := hq b1 (by simpa using h1)
    refine ⟨b' ++ b2, by rw [hb]; exact List.Sublist.append s (List.Sublist.refl _), b', b2, rfl, ?_, ?_⟩
    · simp [← hn]; exact k
    · simp [← hn] ; rw [hn]; exact h2
  | z :: r, cs, bs, idx + 1, x, y, new, ⟨b1, b2, hb, h1, h2⟩, h, hn, hl, hq => by
    have e0 : (idx + 1) * sz = sz + idx * sz := by rw [Nat.add_mul]; omega
    obtain ⟨bs', s, k⟩ := OwE.set (cs := cs.drop sz) h2 (by simpa using h) hn (by rw [List.length_drop]; omega) (fun b hb => hq b (by rw [List.drop_drop, ← e0] at hb; exact hb))
    refine ⟨b1 ++ bs', by rw [hb]; exact List.Sublist.append (List.Sublist.refl _) s, b1, bs', rfl, ?_, ?_⟩
    · rw [e0, List.append_assoc, List.take_append_of_le_length (by simp; omega), List.take_take]
      rw [show min sz (sz + idx * sz) = sz by omega]
      exact h1
    · rw [e0, List.append_assoc, List.drop_append_of_le_length (by simp; omega), List.drop_take]
      rw [show sz + idx * sz - sz = idx * sz by omega]
      rw [List.drop_drop, show sz + (idx * sz + sz) = sz + idx * sz + sz by omega] at k
      rw [← List.append_assoc]
      exact k
end Go.Proofs.Ytgnnljpdcafdkaa.Ev

/- Stores: what the machine does. -/
namespace Go.Proofs.Ytgnnljpdcafdkaa.Ev
open Go

def DoesU (P : Program) (S : Sta) (G : Gh) (H : List Obj) (s : Sem Unit) (w : World) (us : List (Nat × Obj)) : Prop :=
  ∃ w' G' own', s.run P w = .ok () w' ∧ Le G G' ∧ Keeps S.O S.w0 w' ∧ Hs S G' own' (hputs H us) w'

section
variable {P : Program} {S : Sta} {G : Gh} {w : World} {own : Nat → Option Nat} {H : List Obj} {look : Nat → Obj}

theorem allFlat_len : ∀ {ds : List Cv} {fs : List Ec}, allFlat ds = some fs → fs.length = ds.length
  | [], fs, h => by simp [allFlat] at h; simp [h]
  | d :: r, fs, h => by
    cases d <;> simp only [allFlat] at h <;> try cases h
    all_goals
      split at h
      · rename_i fs' hf
        simp at h; subst h
        simp [allFlat_len hf]
      · cases h
theorem allFlat_solid : ∀ {ds : List Cv} {fs : List Ec}, allFlat ds = some fs → solid ds = true
  | [], fs, h => rfl
  | d :: r, fs, h => by
    cases d <;> simp only [allFlat] at h <;> try cases h
    all_goals
      split at h
      · rename_i fs' hf
        exact allFlat_solid (ds := r) hf
      · cases h

theorem ereplace_sl : ∀ {es : List Ec} {ds : List Cv} {fs : List Ec} {off o : Nat} {e' : TypeId} {t' : Ty} {ys : List t'.D}, allFlat ds = some fs → enth (ereplace es off fs) o = some (.sl e' t' ys) → enth es o = some (.sl e' t' ys) ∧ (o < off ∨ off + fs.length ≤ o)
  | [], _, fs, off, o, _, _, _, _, h => by cases off <;> cases fs <;> simp [ereplace, enth] at h
  | e :: r, ds, [], 0, o, _, _, _, _, h => ⟨by simpa [ereplace] using h, .inr (by simp)⟩
  | e :: r, ds, f :: fs, 0, o, _, _, _, hf, h => by
    cases ds with
    | nil => simp [allFlat] at hf
    | cons d ds' =>
      have key : ∃ fs', allFlat ds' = some fs' ∧ f :: fs = f :: fs' ∧ ∀ e' t' (ys : List t'.D), f ≠ .sl e' t' ys := by
        cases d <;> simp only [allFlat] at hf <;> try cases hf
        all_goals
          split at hf
          · rename_i fs' hf'
            simp at hf
            exact ⟨fs', hf', by rw [hf.2], by rw [← hf.1]; simp⟩
          · cases hf
      obtain ⟨fs', k1, k2, k3⟩ := key
      simp at k2; subst k2
      cases o with
      | zero => simp [ereplace, enth] at h; exact absurd h (k3 _ _ _)
      | succ o =>
        simp only [ereplace, enth] at h ⊢
        have := ereplace_sl (off := 0) k1 h
        exact ⟨this.1, .inr (by have := this.2; simp at this ⊢; omega)⟩
  | e :: r, ds, fs, off + 1, o, _, _, _, hf, h => by
    have e2 : ereplace (e :: r) (off + 1) fs = e :: ereplace r off fs := by cases fs <;> rfl
    rw [e2] at h
    cases o with
    | zero => exact ⟨by simpa [enth] using h, .inl (by omega)⟩
    | succ o =>
      simp only [enth] at h ⊢
      have := ereplace_sl (off := off) hf h
      exact ⟨this.1, by omega⟩

theorem store_does {tt : TT} (ok : TTok P tt) (hF : S.FrOk) (hk : Keeps S.O S.w0 w) (hh : Hs S G own H w) (hl : LookOk look H) {T : TypeId} {t : Ty} (hT : tt.shape T = some t) {c : Cv} {u x : Value} {v : LV} {us : List (Nat × Obj)} (hc : VC S G c u) (hv : VV S G v x)
    (h : storeK look t c v some = some us) : DoesU P S G H (Instr.storeAt T u x) w us := by
  unfold storeK at h
  split at h
  · rename_i id gen idx off ag cs
    split at h
    · rename_i hag
      split at h
      · rename_i hlen
        split at h
        · rename_i T' ds hlk
          split at h
          · rename_i hg
            split at h
            · rename_i hi
              split at h
              · rename_i hfit
                split at h
                · rename_i hs
                  simp at h; subst h
                  subst hg hi
                  obtain ⟨vs, q1, q2, q3⟩ := solid_cells hF hs hv
                  have hob := hh.obj id
                  rw [hl.of hlk (by simp)] at hob
                  obtain ⟨p, b, cur, h1, h2, h3, h4, h5, h6, h7, h8⟩ := hob
                  obtain ⟨q, b', k1, k2, k3, k4⟩ := hc
                  rw [h1] at k1
                  obtain rfl : p = q := by simpa using k1
                  rw [h2] at k2
                  obtain rfl : b = b' := by simpa using k2
                  rw [llen_eq] at hlen hfit
                  rw [llen_eq] at hfit
                  have e1 := VL_len q2
                  have e2 := VL_len h7
                  have hr := run_store ok hT w b off T' cur h6 x vs q1 (by omega) (by simp at e2; omega) q3
                  have hsz := seg_size cur off vs (by simp at e2; omega)
                  have hkw := keeps_setRow h6 hsz
                  refine ⟨_, G, own, by rw [k4, h3]; simpa using hr, Le.refl G, hk.step hkw fun y hy => by subst hy; exact (hh.own _ _ h8).2, ?_⟩
                  refine hh.upd id _ (Le.refl G) (fun _ _ => Same.refl ..) (fun y j hy hj => hkw.block y (hh.own y j hy).1 fun e => hj ?_) (fun _ _ hy _ => hy) ⟨p, b, _, h1, h2, h3, h4, ?_, setRow_heap w b cur _ T' (0, 0) h6, ?_, h8⟩ (fun y j hy => ⟨by have := (hh.own y j hy).1; have := hkw.size; omega, (hh.own y j hy).2⟩)
                  · rw [e, h8] at hy
                    simpa using hy.symm
                  · rw [creplace_eq _ _ _ (by omega)]
                    simp
                    omega
                  · simpa using VL_replace (off := off) h7 q2 (by omega)
                · cases h
              · cases h
            · cases h
          · cases h
        · rename_i e t' g m ex lent xs hlk
          split at h
          · rename_i hg
            split at h
            · rename_i es hes
              split at h
              · rename_i hfit
                split at h
                · rename_i y hy
                  simp at h; subst h
                  subst hg
                  obtain ⟨vs, q1, q2, q3⟩ := solid_cells hF (allFlat_solid hes) hv
                  have hob := hh.obj id
                  rw [hl.of hlk (by simp)] at hob
                  obtain ⟨h1, h2, h3, p, h4, h5, h6, hr, h7⟩ := hob
                  obtain ⟨q, b, k1, k2, k3, k4⟩ := hc
                  rw [h4] at k1
                  obtain rfl : p = q := by simpa using k1
                  rw [k2] at h7
                  obtain ⟨cur, bs, l1, l2, l3, l4, l5, l6, l7⟩ := h7
                  have hi : idx < xs.length := by omega
                  have hx := getD_some (d := t'.dflt) hi
                  rw [llen_eq] at hlen hfit
                  have e1 := VL_len q2
                  have hcell : p.base + idx * t'.sz + t'.sz ≤ cur.size := by
                    rw [l2]
                    have : (idx + 1) * t'.sz ≤ (xs.length + ex.getD 0) * t'.sz := Nat.mul_le_mul_right _ (by omega)
                    rw [Nat.add_mul] at this
                    omega
                  have hr0 := run_store ok hT w b (p.base + idx * t'.sz + off) e cur l1 x vs q1 (by omega) (by omega) q3
                  have hsz := seg_size cur (p.base + idx * t'.sz + off) vs (by omega)
                  have hkw := keeps_setRow l1 hsz
                  have hown := l6 b (by simp)
                  obtain ⟨bs', s1, s2⟩ := OwE.set (idx := idx) (x := xs.getD idx t'.dflt) (y := y) (new := ((((cur.toList.drop p.base).drop (idx * t'.sz)).take t'.sz).take off ++ vs ++ (((cur.toList.drop p.base).drop (idx * t'.sz)).take t'.sz).drop (off + vs.length))) l4 hx (by simp; omega) (by simp; omega) (fun b0 hb0 => by
                    have hel := hb0.el.len
                    have hle := hb0.len
                    obtain ⟨b1, t1, t2⟩ := ER.flat (off := off) hb0.er hes q2 (by rw [allFlat_len hes]; omega)
                    obtain ⟨c1, c2, b2, b3, u1, u2, u3, u4⟩ := ER.ow hy t2
                    obtain ⟨r1, r2⟩ := u4
                    subst r1 r2
                    rw [List.append_nil] at u1 u2
                    subst u1 u2
                    exact ⟨_, t1, u3⟩)
                  have hseg := seg_in cur.toList vs p.base (idx * t'.sz) off t'.sz (by omega) (by simp; omega)
                  rw [← hseg] at s2
                  have hnd := List.nodup_cons.1 l5
                  have hbs : ∀ z ∈ bs', z ≠ b := fun z hz e => hnd.1 (e ▸ s1.subset hz)
                  refine ⟨_, G, own, by rw [k4, h5]; exact hr0, Le.refl G, hk.step hkw fun z hz => by subst hz; exact (hh.own _ _ hown).2, ?_⟩
                  refine hh.upd id _ (Le.refl G) (fun _ _ => Same.refl ..) (fun z j hz hj => hkw.block z (hh.own z j hz).1 fun e => hj ?_) (fun _ _ hz _ => hz) ⟨h1, h2, h3, p, h4, h5, by simpa using h6, by simpa using hr, ?_⟩ (fun z j hz => ⟨by have := (hh.own z j hz).1; have := hkw.size; omega, (hh.own z j hz).2⟩)
                  · rw [e, hown] at hz
                    simpa using hz.symm
                  · rw [k2]
                    refine ⟨_, bs', setRow_heap w b cur _ e (0, 0) l1, hsz.trans l2, by simpa using l3, s2.stay fun z hz => hkw.block z (hh.own z id (l6 z (by simp [s1.subset hz]))).1 (hbs z hz), List.nodup_cons.2 ⟨fun hz => hbs b hz rfl, List.Nodup.sublist s1 hnd.2⟩, fun z hz => l6 z ?_, ?_⟩
                    · rcases List.mem_cons.1 hz with rfl | hz
                      · simp
                      · simp [s1.subset hz]
                    · intro j x' o e' t'' ys hj he
                      have hpos : ∀ k, (k < idx * t'.sz + off ∨ idx * t'.sz + off + vs.length ≤ k) → ((cur.toList.take (p.base + idx * t'.sz + off) ++ vs ++ cur.toList.drop (p.base + idx * t'.sz + off + vs.length)).toArray.toList.drop p.base)[k]? = (cur.toList.drop p.base)[k]? := by
                        intro k hk
                        simp only [List.getElem?_drop, List.getElem?_append, List.length_append, List.length_take, Array.length_toList, List.getElem?_take]
                        have f1 : min (p.base + idx * t'.sz + off) cur.size = p.base + idx * t'.sz + off := by omega
                        rw [f1]
                        rcases hk with hk | hk
                        · rw [if_pos (by omega), if_pos (by omega), if_pos (by omega)]
                        · rw [if_neg (by omega)]
                          congr 1; omega
                      by_cases hji : j = idx
                      · subst hji
                        rw [List.getElem?_set_self hi] at hj
                        simp at hj; subst hj
                        have hte := ofE_toE hy
                        rw [List.append_nil] at hte
                        rw [← hte] at he
                        obtain ⟨he1, he2⟩ := ereplace_sl hes he
                        obtain ⟨z, z1, z2⟩ := l7 j _ o e' t'' ys hx he1
                        refine ⟨z, ?_, z2⟩
                        rw [hpos _ (by have := allFlat_len hes; omega)]
                        exact z1
                      · rw [List.getElem?_set_ne (Ne.symm hji)] at hj
                        obtain ⟨z, z1, z2⟩ := l7 j _ o e' t'' ys hj he
                        refine ⟨z, ?_, z2⟩
                        have ho : o < t'.sz := by
                          obtain ⟨bz, _, hz⟩ := l4.get j x' hj
                          have a1 := enth_lt _ _ he
                          have a2 := hz.el.len
                          have a3 := hz.len
                          omega
                        rw [hpos _ (by
                          by_cases hlt : j < idx
                          · have : (j + 1) * t'.sz ≤ idx * t'.sz := Nat.mul_le_mul_right _ hlt
                            rw [Nat.add_mul] at this
                            omega
                          · have : (idx + 1) * t'.sz ≤ j * t'.sz := Nat.mul_le_mul_right _ (by omega)
                            rw [Nat.add_mul] at this
                            omega)]
                        exact z1
                · cases h
              · cases h
            · cases h
          · cases h
        · cases h
      · cases h
    · cases h
  · cases h
end
end Go.Proofs.Ytgnnljpdcafdkaa.Ev

/- What is appended: where it comes from. -/
namespace Go.Proofs.Ytgnnljpdcafdkaa.Ev
open Go

section
variable {α : Type} {Q : α → List Value → List Nat → Prop} {sz : Nat}

theorem OwE.congr : ∀ {xs : List α} {cs ds : List Value} {bs : List Nat}, OwE Q sz xs cs bs → cs.take (xs.length * sz) = ds.take (xs.length * sz) → OwE Q sz xs ds bs
  | [], _, _, _, h, _ => h
  | x :: r, cs, ds, bs, ⟨b1, b2, hb, h1, h2⟩, e => by
    have e0 : (x :: r).length * sz = sz + r.length * sz := by rw [List.length_cons, Nat.add_mul]; omega
    rw [e0] at e
    refine ⟨b1, b2, hb, ?_, ?_⟩
    · have := congrArg (List.take sz) e
      rw [List.take_take, List.take_take, show min sz (sz + r.length * sz) = sz by omega] at this
      rw [← this]; exact h1
    · have := congrArg (List.drop sz) e
      rw [List.drop_take, List.drop_take, show sz + r.length * sz - sz = r.length * sz by omega] at this
      exact OwE.congr h2 this
theorem OwE.cut {xs : List α} {cs : List Value} {bs : List Nat} (h : OwE Q sz xs cs bs) : OwE Q sz xs (cs.take (xs.length * sz)) bs :=
  h.congr (by rw [List.take_take, Nat.min_self])
theorem OwE.more {xs : List α} {cs ds : List Value} {bs : List Nat} (h : OwE Q sz xs cs bs) (hl : xs.length * sz ≤ cs.length) : OwE Q sz xs (cs ++ ds) bs :=
  h.congr (by rw [List.take_append_of_le_length hl])
theorem OwE.append : ∀ {xs ys : List α} {cs ds : List Value} {b1 b2 : List Nat}, OwE Q sz xs cs b1 → cs.length = xs.length * sz → OwE Q sz ys ds b2 → OwE Q sz (xs ++ ys) (cs ++ ds) (b1 ++ b2)
  | [], ys, cs, ds, b1, b2, h, hl, h2 => by
    have : cs = [] := by simpa using hl
    subst this
    rw [show b1 = [] from h]
    exact h2
  | x :: r, ys, cs, ds, b, b2, ⟨b1, b3, hb, h1, h3⟩, hl, h2 => by
    rw [List.length_cons, Nat.add_mul] at hl
    refine ⟨b1, b3 ++ b2, by rw [hb]; simp, ?_, ?_⟩
    · rw [List.take_append_of_le_length (by omega)]; exact h1
    · rw [List.drop_append_of_le_length (by omega)]
      exact OwE.append h3 (by rw [List.length_drop]; omega) h2
theorem OwE.all {R : Value → Prop} (hQ : ∀ x c b, Q x c b → ∀ u ∈ c, R u) : ∀ {xs : List α} {cs : List Value} {bs : List Nat}, OwE Q sz xs cs bs → cs.length = xs.length * sz → ∀ u ∈ cs, R u
  | [], cs, bs, _, hl, u, hu => by
    have : cs = [] := by simpa using hl
    rw [this] at hu; simp at hu
  | x :: r, cs, bs, ⟨b1, b2, hb, h1, h2⟩, hl, u, hu => by
    rw [List.length_cons, Nat.add_mul] at hl
    rw [← List.take_append_drop sz cs] at hu
    rcases List.mem_append.1 hu with hu | hu
    · exact hQ _ _ _ h1 u hu
    · exact OwE.all hQ h2 (by rw [List.length_drop]; omega) u hu
end

theorem RdC.ow {Fr : Frn} {ok : Nat → Prop} {W w : World} : ∀ {t : Ty} {x : t.D} {cs : List Value}, t.nsl = 0 → RdC Fr ok W t x cs → OwT Fr w t x cs []
  | .int _, _, _, _, h => ⟨h, rfl⟩
  | .bool, _, _, _, h => ⟨h, rfl⟩
  | .str, _, _, _, h => ⟨h, rfl⟩
  | .unit, _, _, _, h => ⟨h, rfl⟩
  | .pair a b, _, _, hn, ⟨c1, c2, e, k1, k2⟩ => by
    simp only [Ty.nsl] at hn
    exact ⟨c1, c2, [], [], e, rfl, RdC.ow (by omega) k1, RdC.ow (by omega) k2⟩
  | .st t, _, _, hn, h => RdC.ow (t := t) hn h
  | .slice _ t, _, _, hn, _ => by simp [Ty.nsl] at hn
  | .rs _ _, _, _, hn, _ => by simp [Ty.nsl] at hn
  | .bx _ _, _, _, hn, _ => by simp only [Ty.nsl] at hn; omega

theorem gather {α : Type} {R : α → List Value → Prop} {sz : Nat} {f : Nat → Option Value} : ∀ (ys : List α) (k : Nat), (∀ (j : Nat) (x : α), ys[j]? = some x → ∃ cs : List Value, cs.length = sz ∧ R x cs ∧ ∀ (i : Nat) v, cs[i]? = some v → f ((k + j) * sz + i) = some v) →
    ∃ news : List Value, news.length = ys.length * sz ∧ OwE (fun x cs bs => R x cs ∧ bs = []) sz ys news [] ∧ ∀ (i : Nat) v, news[i]? = some v → f (k * sz + i) = some v
  | [], k, _ => ⟨[], by simp, rfl, fun i v h => by simp at h⟩
  | x :: r, k, h => by
    obtain ⟨cs, h1, h2, h3⟩ := h 0 x rfl
    obtain ⟨news, k1, k2, k3⟩ := gather (R := R) (sz := sz) (f := f) r (k + 1) fun j y hj => by
      obtain ⟨cs, m1, m2, m3⟩ := h (j + 1) y (by simpa using hj)
      exact ⟨cs, m1, m2, fun i v hv => by rw [show k + 1 + j = k + (j + 1) by omega]; exact m3 i v hv⟩
    refine ⟨cs ++ news, by rw [List.length_append, h1, k1, List.length_cons, Nat.add_mul]; omega, ⟨[], [], rfl, ⟨by rw [← h1, List.take_left]; exact h2, rfl⟩, by rw [← h1, List.drop_left, h1]; exact k2⟩, fun i v hv => ?_⟩
    rw [List.getElem?_append] at hv
    split at hv
    · have := h3 i v hv
      simpa using this
    · rename_i hi
      have := k3 _ v hv
      rw [h1] at this
      rw [← this]
      congr 1
      rw [Nat.add_mul]
      rw [h1] at hi
      omega

section
variable {P : Program} {S : Sta} {G : Gh} {w : World} {own : Nat → Option Nat} {H : List Obj} {look : Nat → Obj}

/-- what a second argument of append yields -/
structure Adds (P : Program) (S : Sta) (w : World) (own : Nat → Option Nat) (t : Ty) (tx : TypeId) (u : Value) (ys : List t.D) (ids : List Nat) (news : List Value) (bs : List Nat) : Prop where
  src : Src P t.sz tx u ys.length news w
  ow : OwE (OwT S.Fr w t) t.sz ys news bs
  nd : bs.Nodup
  own : ∀ b ∈ bs, ∃ i ∈ ids, own b = some i

theorem adds_cells (hF : S.FrOk) {t : Ty} {tx e' : TypeId} (hk : P.underlying tx = some (.slice e')) {ad : Addr} {c : Nat} {ys : List t.D} {ids : List Nat} {news : List Value} {bs : List Nat} (hl : news.length = ys.length * t.sz) (hc : ∀ (j : Nat) v, news[j]? = some v → w.cell? (ad.add j) = some v)
    (ho : OwE (OwT S.Fr w t) t.sz ys news bs) (hn : bs.Nodup) (hb : ∀ b ∈ bs, ∃ i ∈ ids, own b = some i) : Adds P S w own t tx (.slice (some ad) ys.length c) ys ids news bs :=
  ⟨Src.ofSlice w hk ad ys.length c news hl hc (ho.all (fun x c b h u hu => (OwT.one (frOk_one hF) h u hu).2) hl), ho, hn, hb⟩
theorem adds_nil {t : Ty} {tx e' : TypeId} (hk : P.underlying tx = some (.slice e')) {c : Nat} {ids : List Nat} : Adds P S w own t tx (.slice none 0 c) [] ids [] [] :=
  ⟨Src.ofNil w hk c, rfl, List.nodup_nil, fun b hb => by simp at hb⟩

theorem adds_rd (hF : S.FrOk) {t : Ty} (hn : t.nsl = 0) {tx e' : TypeId} (hk : P.underlying tx = some (.slice e')) {okp : Nat → Prop} {ys : List t.D} {u : Value} (h : RdS1 okp w (RdC S.Fr okp w t) t.sz ys u) {ids : List Nat} : ∃ news bs, Adds P S w own t tx u ys ids news bs := by
  obtain ⟨A, c, rfl, k1, k2, k3⟩ := h
  by_cases h0 : ys.length = 0
  · have : ys = [] := List.eq_nil_of_length_eq_zero h0
    subst this
    cases A with
    | none => exact ⟨[], [], adds_nil hk⟩
    | some ad => exact ⟨[], [], adds_cells hF hk (by simp) (fun j v h => by simp at h) rfl List.nodup_nil (fun b hb => by simp at hb)⟩
  · obtain ⟨ad, rfl, hb, k4⟩ := k3 (by omega)
    obtain ⟨news, m1, m2, m3⟩ := gather (R := RdC S.Fr okp w t) (sz := t.sz) (f := fun i => w.cell? (ad.add i)) ys 0 fun j x hj => by
      obtain ⟨cs, a1, a2, a3⟩ := k4 j x hj
      exact ⟨cs, a1, a2, fun i v hv => by simpa using a3 i v hv⟩
    exact ⟨news, [], adds_cells hF hk m1 (fun j v h => by simpa using m3 j v h) (m2.mono fun x c b _ h => by rw [h.2]; exact h.1.ow hn) List.nodup_nil (fun b hb => by simp at hb)⟩

theorem addS_adds (hF : S.FrOk) (hk : Keeps S.O S.w0 w) (hh : Hs S G own H w) (hl : LookOk look H) {e : TypeId} {t : Ty} {y : Cv} {u : Value} {ys : List t.D} {ids : List Nat} {tx e' : TypeId} (hkd : P.underlying tx = some (.slice e')) (hc : VC S G y u) (h : addS look e t y = some (ys, ids)) :
    (∃ news bs, Adds P S w own t tx u ys ids news bs) ∧ ∀ i ∈ ids, hget H i ≠ .free := by
  unfold addS at h
  split at h
  · rename_i zs hr
    split at h
    · rename_i hn
      simp at h
      obtain ⟨rfl, rfl⟩ := h
      exact ⟨adds_rd hF hn hkd (rdS_rd (ok := fun _ => True) hF hk hh hl hc hr (fun _ _ => trivial) (fun _ _ _ _ => trivial)), fun i hi => by simp at hi⟩
    · split at h
      · rename_i i gen
        simp at h
        obtain ⟨rfl, rfl⟩ := h
        obtain ⟨bs, k1, k2, k3⟩ := own_ow hh hl hr hc
        refine ⟨?_, fun j hj => ?_⟩
        · rcases k1 with ⟨e1, rfl, rfl⟩ | ⟨b, o, c, cur, b2, e1, h1, h2, h3, h4, rfl, h5⟩
          · simp at e1; subst e1
            exact ⟨[], [], adds_nil hkd⟩
          · simp at e1; subst e1
            have hlen : zs.length * t.sz ≤ (cur.toList.drop o).length := h5.len fun x c b h => h.len
            refine ⟨(cur.toList.drop o).take (zs.length * t.sz), b2, adds_cells hF hkd (by rw [List.length_take]; omega) (fun j v hv => ?_) h5.cut (List.nodup_cons.1 k2).2 fun b' hb' => ⟨i, by simp, k3 b' (by simp [hb'])⟩⟩
            rw [List.getElem?_take] at hv
            split at hv
            · rw [add_none, cell_of h3, ← List.getElem?_drop]; exact hv
            · cases hv
        · simp at hj; subst hj
          obtain ⟨m, ex, hlk⟩ := rdS_own hr
          rw [hl.of hlk (by simp)]; simp
      · simp at h
        obtain ⟨rfl, rfl⟩ := h
        simp [rdS] at hr
        subst hr
        rw [show u = _ from hc]
        exact ⟨⟨[], [], adds_nil hkd⟩, fun i hi => by simp at hi⟩
      · cases h
  · cases h

theorem str_adds {tx : TypeId} (hk : P.underlying tx = some .string) (s : ByteArray) {ids : List Nat} : Adds P S w own (.int .u8) tx (.string s) (s.data.toList.map fun b => (b.toNat : Int)) ids (byteCells s) [] := by
  have hlen : (s.data.toList.map fun b => (b.toNat : Int)).length = s.size := by rw [List.length_map, Array.length_toList]; rfl
  refine ⟨by have := Src.ofString (P := P) w hk s; rw [← hlen] at this; exact this, ?_, List.nodup_nil, fun b hb => by simp at hb⟩
  refine OwE.ofNil fun j x hj => ?_
  rw [List.getElem?_map] at hj
  cases hb : s.data.toList[j]? with
  | none => rw [hb] at hj; simp at hj
  | some b =>
    rw [hb] at hj
    simp at hj
    refine ⟨?_, rfl⟩
    unfold byteCells
    simp only [Ty.sz, Nat.mul_one]
    rw [← List.map_drop, ← List.map_take]
    have : (s.data.toList.drop j).take 1 = [b] := by
      rw [List.take_one, List.head?_drop, hb]; rfl
    rw [this]
    simp [← hj]
end
end Go.Proofs.Ytgnnljpdcafdkaa.Ev
