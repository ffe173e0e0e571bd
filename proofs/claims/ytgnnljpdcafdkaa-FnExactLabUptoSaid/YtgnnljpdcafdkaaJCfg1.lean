/- The tables of types: held against the program by computation. -/
import Derived.Test.YtgnnljpdcafdkaaEv4
import Derived.Test.YtgnnljpdcafdkaaEv1
import Derived.Laws.StructEq
set_option linter.unusedVariables false
set_option linter.unusedSimpArgs false
set_option linter.unusedSectionVars false
namespace Go.Proofs.Ytgnnljpdcafdkaa.Ev
open Go

def vEq : Value → Value → Bool
  | .int k n, .int k' n' => decide (k = k') && decide (n = n')
  | .bool a, .bool b => a == b
  | .string s, .string r => decide (s.data.size = 0) && decide (r.data.size = 0)
  | .slice none 0 0, .slice none 0 0 => true
  | .pointer none, .pointer none => true
  | _, _ => false
theorem empty_bytes (s : ByteArray) (h : s.data.size = 0) : s = ⟨#[]⟩ := by
  obtain ⟨d⟩ := s
  have : d = #[] := Array.eq_empty_of_size_eq_zero h
  rw [this]
theorem vEq_eq {a b : Value} (h : vEq a b = true) : a = b := by
  unfold vEq at h
  split at h
  · simp at h; rw [h.1, h.2]
  · simp at h; rw [h]
  · simp at h
    rename_i s r
    rw [empty_bytes s (by simpa using h.1), empty_bytes r (by simpa using h.2)]
  · rfl
  · rfl
  · cases h
def vsEq : List Value → List Value → Bool
  | [], [] => true
  | a :: r, b :: s => vEq a b && vsEq r s
  | _, _ => false
theorem vsEq_eq : ∀ {a b : List Value}, vsEq a b = true → a = b
  | [], [], _ => rfl
  | a :: r, b :: s, h => by
    simp only [vsEq, Bool.and_eq_true] at h
    rw [vEq_eq h.1, vsEq_eq h.2]
  | [], _ :: _, h => by simp [vsEq] at h
  | _ :: _, [], h => by simp [vsEq] at h

/-- a struct's shape, field by field -/
def fldsB (tt : TT) : Ty → List Field → Nat → Bool
  | .unit, [], _ => true
  | t, [f], off => decide (f.offset = off) && decide (tt.shape f.type = some t)
  | .pair a b, f :: g :: r, off => decide (f.offset = off) && (decide (tt.shape f.type = some a) && fldsB tt b (g :: r) (off + a.sz))
  | _, _, _ => false

def chkD (P : Program) (tt : TT) (T : TypeId) : Ty → Bool
  | .int k => match P.underlying T with
    | some (.int k') => decide (k' = k)
    | _ => false
  | .bool => match P.underlying T with
    | some .bool => true
    | _ => false
  | .str => match P.underlying T with
    | some .string => true
    | _ => false
  | .slice e t' => match P.underlying T with
    | some (.slice e') => decide (e' = e) && (decide (tt.elem T = some e) && decide (tt.shape e = some t'))
    | _ => false
  | .st t' => match P.underlying T with
    | some (.struct fs) => fs.toList.all (fun f => (P.info? f.type).isSome) && fldsB tt t' fs.toList 0
    | _ => false
  | _ => false
def chkT (P : Program) (tt : TT) (T : TypeId) (t : Ty) : Bool :=
  (match P.info? T with
    | some i => decide (i.size = t.sz) && (decide (i.bytes = tt.bytes T) && (match i.zero with
      | some z => vsEq z.cells.toList (zeroVs t)
      | none => false))
    | none => false) &&
  ((t.isAgg || decide (t.sz = 1)) &&
  chkD P tt T t)

def chkF (P : Program) (tt : TT) (T : TypeId) (l : List (Nat × Ty)) : Bool :=
  match P.underlying T, tt.shape T with
  | some (.struct fs), some t0 => (List.range l.length).all fun i => match l[i]?, fs[i]? with
    | some (o, t), some fd => decide (fd.offset = o) && (decide (tt.shape fd.type = some t) && decide (o + t.sz ≤ t0.sz))
    | _, _ => false
  | _, _ => false

def flatT : Ty → Bool
  | .int _ => true
  | .bool => true
  | .str => true
  | .unit => true
  | .pair a b => flatT a && flatT b
  | _ => false
def chkC (P : Program) (tt : TT) (T : TypeId) : Bool :=
  match P.underlying T, tt.shape T with
  | some (.struct fs), some (.st t) => flatT t && (fldsB tt t fs.toList 0 && (fs.toList.all (fun f => decide (f.name ≠ "_")) && (!P.stoodInHeld T && !P.eqGuardType P.depth T)))
  | _, _ => false

theorem assoc_mem {α : Type} {n : Nat} {x : α} : ∀ {l : List (Nat × α)}, assoc l n = some x → (n, x) ∈ l
  | [], h => by simp [assoc] at h
  | (m, y) :: r, h => by
    unfold assoc at h
    split at h
    · rename_i e; simp at h; subst e h; simp
    · simp [assoc_mem h]
theorem nth?_eq {α : Type} : ∀ (l : List α) (n : Nat), nth? l n = l[n]?
  | [], _ => by simp [nth?]
  | x :: r, 0 => by simp [nth?]
  | x :: r, n + 1 => by simp [nth?, nth?_eq r n]

def chkAll (P : Program) (X : Tables) : Bool :=
  X.shapes.all (fun p => chkT P X.tt p.1 p.2) && (X.elems.all (fun p => match P.underlying p.1 with
    | some (.slice e) => decide (e = p.2)
    | _ => false) && (X.fieldss.all (fun p => chkF P X.tt p.1 p.2) && (X.ptrTs.all (fun p => match P.underlying p.1 with
    | some (.pointer _) => true
    | _ => false) && X.cmps.all (fun p => chkC P X.tt p.1))))

theorem flds_len {tt : TT} : ∀ {t : Ty} {fs : List Field} {off : Nat}, fldsB tt t fs off = true → flatT t = true → t.nsl = 0
  | .int _, _, _, _, _ => rfl
  | .bool, _, _, _, _ => rfl
  | .str, _, _, _, _ => rfl
  | .unit, _, _, _, _ => rfl
  | .pair a b, fs, off, h, hf => by
    simp only [flatT, Bool.and_eq_true] at hf
    have flat0 : ∀ t : Ty, flatT t = true → t.nsl = 0 := by
      intro t
      induction t with
      | pair a b iha ihb => intro h; simp only [flatT, Bool.and_eq_true] at h; simp [Ty.nsl, iha h.1, ihb h.2]
      | int k => intro _; rfl
      | bool => intro _; rfl
      | str => intro _; rfl
      | unit => intro _; rfl
      | _ => intro h; simp [flatT] at h
    simp [Ty.nsl, flat0 a hf.1, flat0 b hf.2]
  | .st _, _, _, _, hf => by simp [flatT] at hf
  | .slice _ _, _, _, _, hf => by simp [flatT] at hf
  | .rs _ _, _, _, _, hf => by simp [flatT] at hf
  | .bx _ _, _, _, _, hf => by simp [flatT] at hf

theorem run_part {P : Program} {tt : TT} {T : TypeId} {t : Ty} (hs : tt.shape T = some t) (hag : ∀ w, (isAgg T).run P w = .ok t.isAgg w) (hf : t.isAgg = false) {xs : Array Value} {o : Nat} {v : Value} (hx : xs[o]? = some v) (w : World) : (part T xs o).run P w = .ok v w := by
  unfold part
  simp [Sem.run_bind, hag, hf, hx]
end Go.Proofs.Ytgnnljpdcafdkaa.Ev
