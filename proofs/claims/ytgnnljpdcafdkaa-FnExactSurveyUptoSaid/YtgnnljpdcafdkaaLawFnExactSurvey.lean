/- The law 'FnExactSurvey' returns true for every argument that is of bulk at most 1048576, and its arguments read behind the call as they did before. -/
import Derived.Test.YtgnnljpdcafdkaaEv7
import Derived.Test.YtgnnljpdcafdkaaEv7
import Derived.Test.YtgnnljpdcafdkaaJTab1Ok
import Derived.WalkKit
import Derived.ProofKit
import Derived.OpenShut
import Derived.JoinedCond
import Derived.ChangeOld
set_option linter.unusedVariables false
set_option linter.unusedSimpArgs false
set_option linter.unusedSectionVars false
namespace Go.Proofs.Ytgnnljpdcafdkaa.fnExactSurvey
open Go.ChangeShapes Go.WideShapes Go.ChangeAt Go.RowKit

theorem own : ownKnob Try.prog.godebug = none := by kernel_rfl
theorem laidOut : laidOutB Try.prog = true := by kernel_rfl
theorem sh0 : Ev.tt.shape 33 = some (.slice 9 .str) := by kernel_rfl
theorem sh1 : Ev.tt.shape 3 = some (.int .i64) := by kernel_rfl
theorem pl0 : (Ev.tt.shape 33).map Ev.plainT = some true := by kernel_rfl
theorem pl1 : (Ev.tt.shape 3).map Ev.plainT = some true := by kernel_rfl
set_option maxRecDepth 100000 in
theorem contract (H : Type) (enc : TypeId × Value → H) (W : World) (base : Nat) (args : Array Value) (ds gs : List (DataW H)) (before : List MemPlace)
    (hval : ∀ (j : Nat) t v, Try.f8.params[j]? = some t → args[j]? = some v → Value.okWide Try.prog W .any base t v)
    (hW : DataW.Whole enc Try.prog Try.f8.params.toList Rows.fnExactSurveySpec.vars false W args.toList ds gs before) (hk : Rows.uptoSmall H (ds ++ gs) = true) :
    Calls Try.prog 8 args W fun e W' => ∃ v, e = .returned v ∧ Rows.fnExactSurveySpec.post enc Try.prog Try.f8 false true false false W args v W' := by
  have hW' := hW
  obtain ⟨p, q, hA0, hV, rfl, hfz, hnd⟩ := hW
  have hA : DataW.TrodAll enc Try.prog W 0 (fun _ => true) true Try.f8.params.toList args.toList ds p := hA0
  rw [Try.params8] at hA hval
  obtain ⟨v0, vs0, d0, ds0, p0, q0, hargs, rfl, rfl, h0, r0⟩ := trodAll_cons hA
  obtain ⟨v1, vs1, d1, ds1, p1, q1, rfl, rfl, rfl, h1, r1⟩ := trodAll_cons r0
  obtain ⟨rfl, rfl, rfl⟩ := trodAll_nil r1
  obtain rfl : args = #[v0, v1] := by cases args; simp_all
  obtain ⟨rfl, rfl⟩ := trodVars_none hV
  have lt0 : ∀ x ∈ p0, x.block < W.heap.size := by obtain ⟨m, hm⟩ := h0; exact DataW.trod_lt m _ _ _ hm
  obtain ⟨x0, a0, i0, b0⟩ := Ev.arg_rd (tt := Ev.tt) (t := (.slice 9 .str)) Ev.tt_ok Ev.tt_chk sh0 pl0 (hval 0 33 v0 (by simp) (by simp)) h0
  have lt1 : ∀ x ∈ p1, x.block < W.heap.size := by obtain ⟨m, hm⟩ := h1; exact DataW.trod_lt m _ _ _ hm
  obtain ⟨x1, a1, i1, b1⟩ := Ev.arg_rd (tt := Ev.tt) (t := (.int .i64)) Ev.tt_ok Ev.tt_chk sh1 pl1 (hval 1 3 v1 (by simp) (by simp)) h1
  have hb := Ev.bulk_le hk
  simp only [List.append_nil, Rows.uptoBulkAll] at hb
  obtain ⟨k, hev⟩ := Ev.plSurvey x0 x1 i0 i1 (by omega)
  refine (Ev.walk2 (Ev.evF_sound Ev.cfg_ok k 8 _ true hev) a0 a1).mono fun e W' ⟨he, bel⟩ => ?_
  subst he
  exact ⟨_, rfl, _, _, _, [], _, [], hW', trodAll_mk1 (shut_bool Try.underlying4 _), (trodAll_cons_mk (Below.trod laidOut (by kernel_rfl) (of_decide_eq_true (by kernel_rfl)) h0 bel lt0) (trodAll_cons_mk (Below.trod laidOut (by kernel_rfl) (of_decide_eq_true (by kernel_rfl)) h1 bel lt1) trodAll_mk0)), rfl, bel.frame _, fun h => by cases h⟩

set_option maxRecDepth 100000 in
theorem lifted (os : Os) (started : os.Started) (H : Type) (enc : TypeId × Value → H) (F : Stop.Interp) :
    ReturnsInHanded {} Try.checked os 8 .any ((Rows.OpenSpec.upto Rows.fnExactSurveySpec).pre6 enc Try.prog Try.f8 Rows.fnExactSurveyUptoRow.domain false) (((Rows.OpenSpec.upto Rows.fnExactSurveySpec).at F).post enc Try.prog Try.f8 false true false false) := by
  refine returnsInHanded_of_cond (C := Try.checked) (s := Rows.OpenSpec.upto Rows.fnExactSurveySpec) (k := Rows.uptoSmall) rfl own started (by kernel_rfl) Try.func8
    (OpenSpec.witness (enc := enc) (C := Try.checked) (s := Rows.OpenSpec.upto Rows.fnExactSurveySpec) (k := Rows.uptoSmall) rfl false ⟨#[], #[.slice none 0 0, .int .i64 0], []⟩ 8 (by kernel_rfl) (by kernel_rfl) (by kernel_rfl)
      (x := ([.nil, .lit (.int .i64 0)], [], [])) (by kernel_rfl) rfl (by kernel_rfl)) ?_
  intro W base args ds gs before hval hW _ hk _
  exact contract H enc W base args ds gs before hval hW hk

theorem over : Rows.fnExactSurveyUptoRow.holds Try.pinned (Rows.OpenSpec.upto Rows.fnExactSurveySpec) :=
  OpenClaim.holds_of_cond 8 Try.f8 rfl rfl rfl rfl rfl rfl rfl ⟨rfl, rfl, rfl, rfl, rfl⟩ rfl rfl rfl rfl rfl (by kernel_rfl) Try.func8 (by kernel_rfl)
    (of_decide_eq_true (by kernel_rfl)) (by unfold Func.isWrapper; first | (rw [if_pos (by decide +kernel)]; kernel_rfl) | (rw [if_neg (by decide +kernel)]; exact ⟨rfl, rfl⟩))
    (fun os started H enc _ F => lifted os started H enc F)
theorem proved : Rows.FnExactSurveyUptoSaid := over
end Go.Proofs.Ytgnnljpdcafdkaa.fnExactSurvey
namespace Go.Proofs.Ytgnnljpdcafdkaa
/-- The statement, under a short name, for the claim. -/
theorem fnExactSurveyUpto_holds : Rows.FnExactSurveyUptoSaid := fnExactSurvey.proved
#print axioms fnExactSurveyUpto_holds
end Go.Proofs.Ytgnnljpdcafdkaa
