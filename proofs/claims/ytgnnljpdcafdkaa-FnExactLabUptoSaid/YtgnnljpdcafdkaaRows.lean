/-
  No cell of these rows narrows 'for every input' (looked for: loops, veiled, ifaces, maps, wideKeys, modest, calm, conditions, laid).
  DERIVED. THE GIVEN ROWS OF THIS SEAT. 8 by the template 'for every input the law returns true; each argument reads behind the call as it read before'; 0 by the template 'total and deterministic' (their statements: YtgnnljpdcafdkaaTotals.lean).
  GIVEN WITH THE SEED: the statements are not yours to turn. If you find one false, say at which input.
  Laid BY PROGRAM, IN A SANDBOX (cutbox-rows.mjs): the forced cells as the released guide's own fill.sh prints them over the translation 7cfdc2e31eb18318… (all of the seat's roots in one cut). By AI agents, Wed Nov 11 2026. No macro, syntax, notation, axiom, sorry.
-/
import Derived.Test.YtgnnljpdcafdkaaChecked
import GoSem.Claim
import GoSem.ClaimJoined
import GoSem.ClaimMapViews
import Derived.JoinedTies
import Derived.KernelRfl
namespace Go.Proofs.Ytgnnljpdcafdkaa
/- THE CELL 'sum', in the pinned program and in every row, IS THE sha256 OF THE DUMP (.gsa) THAT YtgnnljpdcafdkaaProg.lean LOADS. Nothing in Lean hashes anything: it is a label: what it is worth is what the hold of that sum in a sandbox is worth. -/
noncomputable def Try.pinned : Pinned := { name := "ytgnnljpdcafdkaa", sum := "7cfdc2e31eb18318de26452f4cf18dd4ee524e7083134a33cc9ad12ef61e4d20", checked := Try.checked }
namespace Rows
def none {H : Type} : Left H := { results := [], args := [] }

/-- 'laws.FnExactTextThree': WHATEVER THE INPUT: true; the input reads as it did. -/
def fnExactTextThreeSpec : ChangeSpec := { name := "fnExactTextThree", fn := fun _ => fun
  | [d] => { results := [.lit (.bool true)], args := [d] }
  | _ => none }
def fnExactTextThreeRow : OpenClaim := { program := "ytgnnljpdcafdkaa", sum := "7cfdc2e31eb18318de26452f4cf18dd4ee524e7083134a33cc9ad12ef61e4d20", func := "loop.example/g00724/laws.FnExactTextThree", spec := "fnExactTextThree", inPlace := ["internal/bytealg.IndexByteString", "internal/bytealg.IndexString"], unfollowed := true, recurses := true, named := ["internal/bytealg.MaxLen"], apart := false }
def FnExactTextThreeSaid : Prop := fnExactTextThreeRow.holds Try.pinned (OpenSpec.ofChange fnExactTextThreeSpec)

/-- ITS FALSE NEIGHBOUR: 'it returns false'. Refute it at one input. -/
def fnExactTextThreeWrong : ChangeSpec := { name := "fnExactTextThree", fn := fun _ => fun
  | [d] => { results := [.lit (.bool false)], args := [d] }
  | _ => none }
def FnExactTextThreeWrongFalsely : Prop := fnExactTextThreeRow.holds Try.pinned (OpenSpec.ofChange fnExactTextThreeWrong)

/-- 'laws.FnExactHitsOf': WHATEVER THE INPUT: true; the input reads as it did. -/
def fnExactHitsOfSpec : ChangeSpec := { name := "fnExactHitsOf", fn := fun _ => fun
  | [d1, d2] => { results := [.lit (.bool true)], args := [d1, d2] }
  | _ => none }
def fnExactHitsOfRow : OpenClaim := { program := "ytgnnljpdcafdkaa", sum := "7cfdc2e31eb18318de26452f4cf18dd4ee524e7083134a33cc9ad12ef61e4d20", func := "loop.example/g00724/laws.FnExactHitsOf", spec := "fnExactHitsOf", unfollowed := true, recurses := true, apart := false }
def FnExactHitsOfSaid : Prop := fnExactHitsOfRow.holds Try.pinned (OpenSpec.ofChange fnExactHitsOfSpec)

/-- ITS FALSE NEIGHBOUR: 'it returns false'. Refute it at one input. -/
def fnExactHitsOfWrong : ChangeSpec := { name := "fnExactHitsOf", fn := fun _ => fun
  | [d1, d2] => { results := [.lit (.bool false)], args := [d1, d2] }
  | _ => none }
def FnExactHitsOfWrongFalsely : Prop := fnExactHitsOfRow.holds Try.pinned (OpenSpec.ofChange fnExactHitsOfWrong)

/-- 'laws.FnExactHolds': WHATEVER THE INPUT: true; the input reads as it did. -/
def fnExactHoldsSpec : ChangeSpec := { name := "fnExactHolds", fn := fun _ => fun
  | [d1, d2] => { results := [.lit (.bool true)], args := [d1, d2] }
  | _ => none }
def fnExactHoldsRow : OpenClaim := { program := "ytgnnljpdcafdkaa", sum := "7cfdc2e31eb18318de26452f4cf18dd4ee524e7083134a33cc9ad12ef61e4d20", func := "loop.example/g00724/laws.FnExactHolds", spec := "fnExactHolds", unfollowed := true, recurses := true, apart := false }
def FnExactHoldsSaid : Prop := fnExactHoldsRow.holds Try.pinned (OpenSpec.ofChange fnExactHoldsSpec)

/-- ITS FALSE NEIGHBOUR: 'it returns false'. Refute it at one input. -/
def fnExactHoldsWrong : ChangeSpec := { name := "fnExactHolds", fn := fun _ => fun
  | [d1, d2] => { results := [.lit (.bool false)], args := [d1, d2] }
  | _ => none }
def FnExactHoldsWrongFalsely : Prop := fnExactHoldsRow.holds Try.pinned (OpenSpec.ofChange fnExactHoldsWrong)

/-- 'laws.FnExactOpsDo': WHATEVER THE INPUT: true; the input reads as it did. -/
def fnExactOpsDoSpec : ChangeSpec := { name := "fnExactOpsDo", fn := fun _ => fun
  | [d1, d2] => { results := [.lit (.bool true)], args := [d1, d2] }
  | _ => none }
def fnExactOpsDoRow : OpenClaim := { program := "ytgnnljpdcafdkaa", sum := "7cfdc2e31eb18318de26452f4cf18dd4ee524e7083134a33cc9ad12ef61e4d20", func := "loop.example/g00724/laws.FnExactOpsDo", spec := "fnExactOpsDo", unfollowed := true, recurses := true, apart := false }
def FnExactOpsDoSaid : Prop := fnExactOpsDoRow.holds Try.pinned (OpenSpec.ofChange fnExactOpsDoSpec)

/-- ITS FALSE NEIGHBOUR: 'it returns false'. Refute it at one input. -/
def fnExactOpsDoWrong : ChangeSpec := { name := "fnExactOpsDo", fn := fun _ => fun
  | [d1, d2] => { results := [.lit (.bool false)], args := [d1, d2] }
  | _ => none }
def FnExactOpsDoWrongFalsely : Prop := fnExactOpsDoRow.holds Try.pinned (OpenSpec.ofChange fnExactOpsDoWrong)

/-- 'laws.FnExactMend': WHATEVER THE INPUT: true; the input reads as it did. -/
def fnExactMendSpec : ChangeSpec := { name := "fnExactMend", fn := fun _ => fun
  | [d1, d2] => { results := [.lit (.bool true)], args := [d1, d2] }
  | _ => none }
def fnExactMendRow : OpenClaim := { program := "ytgnnljpdcafdkaa", sum := "7cfdc2e31eb18318de26452f4cf18dd4ee524e7083134a33cc9ad12ef61e4d20", func := "loop.example/g00724/laws.FnExactMend", spec := "fnExactMend", inPlace := ["internal/bytealg.IndexByteString", "internal/bytealg.IndexString"], unfollowed := true, recurses := true, named := ["internal/bytealg.MaxLen"], apart := false }
def FnExactMendSaid : Prop := fnExactMendRow.holds Try.pinned (OpenSpec.ofChange fnExactMendSpec)

/-- ITS FALSE NEIGHBOUR: 'it returns false'. Refute it at one input. -/
def fnExactMendWrong : ChangeSpec := { name := "fnExactMend", fn := fun _ => fun
  | [d1, d2] => { results := [.lit (.bool false)], args := [d1, d2] }
  | _ => none }
def FnExactMendWrongFalsely : Prop := fnExactMendRow.holds Try.pinned (OpenSpec.ofChange fnExactMendWrong)

/-- 'laws.FnExactSurvey': WHATEVER THE INPUT: true; the input reads as it did. -/
def fnExactSurveySpec : ChangeSpec := { name := "fnExactSurvey", fn := fun _ => fun
  | [d1, d2] => { results := [.lit (.bool true)], args := [d1, d2] }
  | _ => none }
def fnExactSurveyRow : OpenClaim := { program := "ytgnnljpdcafdkaa", sum := "7cfdc2e31eb18318de26452f4cf18dd4ee524e7083134a33cc9ad12ef61e4d20", func := "loop.example/g00724/laws.FnExactSurvey", spec := "fnExactSurvey", unfollowed := true, recurses := true, apart := false }
def FnExactSurveySaid : Prop := fnExactSurveyRow.holds Try.pinned (OpenSpec.ofChange fnExactSurveySpec)

/-- ITS FALSE NEIGHBOUR: 'it returns false'. Refute it at one input. -/
def fnExactSurveyWrong : ChangeSpec := { name := "fnExactSurvey", fn := fun _ => fun
  | [d1, d2] => { results := [.lit (.bool false)], args := [d1, d2] }
  | _ => none }
def FnExactSurveyWrongFalsely : Prop := fnExactSurveyRow.holds Try.pinned (OpenSpec.ofChange fnExactSurveyWrong)

/-- 'laws.FnExactLab': WHATEVER THE INPUT: true; the input reads as it did. -/
def fnExactLabSpec : ChangeSpec := { name := "fnExactLab", fn := fun _ => fun
  | [d1, d2] => { results := [.lit (.bool true)], args := [d1, d2] }
  | _ => none }
def fnExactLabRow : OpenClaim := { program := "ytgnnljpdcafdkaa", sum := "7cfdc2e31eb18318de26452f4cf18dd4ee524e7083134a33cc9ad12ef61e4d20", func := "loop.example/g00724/laws.FnExactLab", spec := "fnExactLab", unfollowed := true, recurses := true, apart := false }
def FnExactLabSaid : Prop := fnExactLabRow.holds Try.pinned (OpenSpec.ofChange fnExactLabSpec)

/-- ITS FALSE NEIGHBOUR: 'it returns false'. Refute it at one input. -/
def fnExactLabWrong : ChangeSpec := { name := "fnExactLab", fn := fun _ => fun
  | [d1, d2] => { results := [.lit (.bool false)], args := [d1, d2] }
  | _ => none }
def FnExactLabWrongFalsely : Prop := fnExactLabRow.holds Try.pinned (OpenSpec.ofChange fnExactLabWrong)

/-- 'laws.FnTexts': WHATEVER THE INPUT: true; the input reads as it did. -/
def fnTextsSpec : ChangeSpec := { name := "fnTexts", fn := fun _ => fun
  | [d] => { results := [.lit (.bool true)], args := [d] }
  | _ => none }
def fnTextsRow : OpenClaim := { program := "ytgnnljpdcafdkaa", sum := "7cfdc2e31eb18318de26452f4cf18dd4ee524e7083134a33cc9ad12ef61e4d20", func := "loop.example/g00724/laws.FnTexts", spec := "fnTexts", inPlace := ["internal/bytealg.IndexByteString", "internal/bytealg.IndexString"], unfollowed := true, recurses := true, named := ["internal/bytealg.MaxLen"], apart := false }
def FnTextsSaid : Prop := fnTextsRow.holds Try.pinned (OpenSpec.ofChange fnTextsSpec)

/-- ITS FALSE NEIGHBOUR: 'it returns false'. Refute it at one input. -/
def fnTextsWrong : ChangeSpec := { name := "fnTexts", fn := fun _ => fun
  | [d] => { results := [.lit (.bool false)], args := [d] }
  | _ => none }
def FnTextsWrongFalsely : Prop := fnTextsRow.holds Try.pinned (OpenSpec.ofChange fnTextsWrong)

/- THE SECOND FORM. 'bulk': how many values and letters a reading holds, each counted each time it is reached (what is shared counts as often as it is met; a slice's spare places count too). A statement '..UptoSaid' is the law's where the arguments, and the package variables that the reading takes, are together of bulk at most 1048576: NARROWER than '..Said'. Prove '..Said' where nothing that the law and all that it calls make is longer than what came in: it says more and counts as full. Else prove '..UptoSaid'. A law counts once. -/
mutual
def uptoBulk {H : Type} : DataW H → Nat
  | .lit (.string bytes) => bytes.length + 1
  | .lit _ => 1
  | .nil => 1
  | .ptr d => uptoBulk d + 1
  | .slice elems spare => uptoBulkAll elems + uptoBulkAll spare + 1
  | .agg parts => uptoBulkAll parts + 1
  | .iface _ d => uptoBulk d + 1
  | .map entries => uptoBulkEntries entries + 1
  | .held _ => 1
def uptoBulkAll {H : Type} : List (DataW H) → Nat
  | [] => 0
  | d :: r => uptoBulk d + uptoBulkAll r
def uptoBulkEntries {H : Type} : List (Lit × DataW H) → Nat
  | [] => 0
  | x :: r => uptoBulkEntry x + uptoBulkEntries r
def uptoBulkEntry {H : Type} : Lit × DataW H → Nat
  | (.string bytes, d) => bytes.length + uptoBulk d + 1
  | (_, d) => uptoBulk d + 1
 end
def uptoSmall : (H : Type) → List (DataW H) → Bool := fun _ ds => decide (uptoBulkAll ds ≤ 1048576)
def OpenSpec.upto (s : _root_.Go.ChangeSpec) : _root_.Go.OpenSpec := { _root_.Go.OpenSpec.ofChange s with cond := some uptoSmall }

/-- 'laws.FnExactTextThree', WHERE WHAT IT READS IS OF BULK AT MOST 1048576: true; the input reads as it did. -/
def fnExactTextThreeUptoRow : OpenClaim := { program := "ytgnnljpdcafdkaa", sum := "7cfdc2e31eb18318de26452f4cf18dd4ee524e7083134a33cc9ad12ef61e4d20", func := "loop.example/g00724/laws.FnExactTextThree", spec := "fnExactTextThree", inPlace := ["internal/bytealg.IndexByteString", "internal/bytealg.IndexString"], unfollowed := true, recurses := true, named := ["internal/bytealg.MaxLen"], apart := false, narrowed := true }
def FnExactTextThreeUptoSaid : Prop := fnExactTextThreeUptoRow.holds Try.pinned (OpenSpec.upto fnExactTextThreeSpec)

/-- 'laws.FnExactHitsOf', WHERE WHAT IT READS IS OF BULK AT MOST 1048576: true; the input reads as it did. -/
def fnExactHitsOfUptoRow : OpenClaim := { program := "ytgnnljpdcafdkaa", sum := "7cfdc2e31eb18318de26452f4cf18dd4ee524e7083134a33cc9ad12ef61e4d20", func := "loop.example/g00724/laws.FnExactHitsOf", spec := "fnExactHitsOf", unfollowed := true, recurses := true, apart := false, narrowed := true }
def FnExactHitsOfUptoSaid : Prop := fnExactHitsOfUptoRow.holds Try.pinned (OpenSpec.upto fnExactHitsOfSpec)

/-- 'laws.FnExactHolds', WHERE WHAT IT READS IS OF BULK AT MOST 1048576: true; the input reads as it did. -/
def fnExactHoldsUptoRow : OpenClaim := { program := "ytgnnljpdcafdkaa", sum := "7cfdc2e31eb18318de26452f4cf18dd4ee524e7083134a33cc9ad12ef61e4d20", func := "loop.example/g00724/laws.FnExactHolds", spec := "fnExactHolds", unfollowed := true, recurses := true, apart := false, narrowed := true }
def FnExactHoldsUptoSaid : Prop := fnExactHoldsUptoRow.holds Try.pinned (OpenSpec.upto fnExactHoldsSpec)

/-- 'laws.FnExactOpsDo', WHERE WHAT IT READS IS OF BULK AT MOST 1048576: true; the input reads as it did. -/
def fnExactOpsDoUptoRow : OpenClaim := { program := "ytgnnljpdcafdkaa", sum := "7cfdc2e31eb18318de26452f4cf18dd4ee524e7083134a33cc9ad12ef61e4d20", func := "loop.example/g00724/laws.FnExactOpsDo", spec := "fnExactOpsDo", unfollowed := true, recurses := true, apart := false, narrowed := true }
def FnExactOpsDoUptoSaid : Prop := fnExactOpsDoUptoRow.holds Try.pinned (OpenSpec.upto fnExactOpsDoSpec)

/-- 'laws.FnExactMend', WHERE WHAT IT READS IS OF BULK AT MOST 1048576: true; the input reads as it did. -/
def fnExactMendUptoRow : OpenClaim := { program := "ytgnnljpdcafdkaa", sum := "7cfdc2e31eb18318de26452f4cf18dd4ee524e7083134a33cc9ad12ef61e4d20", func := "loop.example/g00724/laws.FnExactMend", spec := "fnExactMend", inPlace := ["internal/bytealg.IndexByteString", "internal/bytealg.IndexString"], unfollowed := true, recurses := true, named := ["internal/bytealg.MaxLen"], apart := false, narrowed := true }
def FnExactMendUptoSaid : Prop := fnExactMendUptoRow.holds Try.pinned (OpenSpec.upto fnExactMendSpec)

/-- 'laws.FnExactSurvey', WHERE WHAT IT READS IS OF BULK AT MOST 1048576: true; the input reads as it did. -/
def fnExactSurveyUptoRow : OpenClaim := { program := "ytgnnljpdcafdkaa", sum := "7cfdc2e31eb18318de26452f4cf18dd4ee524e7083134a33cc9ad12ef61e4d20", func := "loop.example/g00724/laws.FnExactSurvey", spec := "fnExactSurvey", unfollowed := true, recurses := true, apart := false, narrowed := true }
def FnExactSurveyUptoSaid : Prop := fnExactSurveyUptoRow.holds Try.pinned (OpenSpec.upto fnExactSurveySpec)

/-- 'laws.FnExactLab', WHERE WHAT IT READS IS OF BULK AT MOST 1048576: true; the input reads as it did. -/
def fnExactLabUptoRow : OpenClaim := { program := "ytgnnljpdcafdkaa", sum := "7cfdc2e31eb18318de26452f4cf18dd4ee524e7083134a33cc9ad12ef61e4d20", func := "loop.example/g00724/laws.FnExactLab", spec := "fnExactLab", unfollowed := true, recurses := true, apart := false, narrowed := true }
def FnExactLabUptoSaid : Prop := fnExactLabUptoRow.holds Try.pinned (OpenSpec.upto fnExactLabSpec)

/-- 'laws.FnTexts', WHERE WHAT IT READS IS OF BULK AT MOST 1048576: true; the input reads as it did. -/
def fnTextsUptoRow : OpenClaim := { program := "ytgnnljpdcafdkaa", sum := "7cfdc2e31eb18318de26452f4cf18dd4ee524e7083134a33cc9ad12ef61e4d20", func := "loop.example/g00724/laws.FnTexts", spec := "fnTexts", inPlace := ["internal/bytealg.IndexByteString", "internal/bytealg.IndexString"], unfollowed := true, recurses := true, named := ["internal/bytealg.MaxLen"], apart := false, narrowed := true }
def FnTextsUptoSaid : Prop := fnTextsUptoRow.holds Try.pinned (OpenSpec.upto fnTextsSpec)

end Rows
end Go.Proofs.Ytgnnljpdcafdkaa
