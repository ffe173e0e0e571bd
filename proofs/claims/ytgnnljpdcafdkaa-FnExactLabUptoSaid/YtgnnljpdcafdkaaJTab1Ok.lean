/- The tables of Ytgnnljpdcafdkaa: held against the program. -/
import Derived.Test.YtgnnljpdcafdkaaJTab1
import Derived.Test.YtgnnljpdcafdkaaJCfg2
import Derived.KernelRfl
set_option linter.unusedVariables false
set_option linter.unusedSimpArgs false
set_option linter.unusedSectionVars false
namespace Go.Proofs.Ytgnnljpdcafdkaa.Ev
open Go

theorem tabs_ok : chkAll Try.prog tabs = true := by kernel_rfl
def bodyNs : List Nat := [125, 64, 134, 102, 126, 65, 66, 130, 175, 132, 205, 174, 127, 67, 128, 129, 68, 131, 133, 135, 69, 11, 70, 117, 104, 139, 105, 136, 71, 182, 150, 170, 137, 72, 138, 177, 140, 141, 207, 208, 178, 142, 73, 12, 143, 74, 75, 13, 86, 76, 77, 14, 78, 79, 15, 3, 16, 153, 144, 145, 80, 81, 146, 92, 213, 185, 157, 187, 188, 225, 214, 215, 186, 158, 209, 189, 210, 179, 180, 147, 82, 17, 18, 19, 148, 181, 149, 83, 84, 151, 161, 97, 190, 162, 53, 218, 192, 226, 216, 217, 191, 193, 163, 211, 224, 212, 183, 184, 152, 85, 20, 21, 22, 23, 24, 25, 4, 87, 26, 154, 88, 27, 28, 5, 155, 89, 90, 29, 91, 30, 156, 159, 93, 31, 160, 94, 95, 32, 96, 33, 118, 194, 195, 164, 98, 34, 99, 35, 100, 36, 37, 38, 39, 6, 40, 41, 7, 101, 196, 197, 219, 198, 165, 103, 107, 44, 42, 220, 199, 221, 200, 201, 166, 167, 106, 108, 45, 43, 8, 168, 109, 46, 47, 48, 9]
theorem bodies_eq : bodies = bodyNs.map fun n => (n, (Try.prog.funcs[n]?).getD default) := by kernel_rfl
theorem bodies_lt : bodyNs.all (fun n => decide (n < Try.prog.funcs.size)) = true := by kernel_rfl
theorem bodies_nm : bodies.all (fun p => !(p.2.name == "runtime.NumGoroutine")) = true := by kernel_rfl
theorem prog_mixed : Try.prog.follows .mixedOrders = true := by kernel_rfl
theorem tt_ok : TTok Try.prog tt := ttok_of tabs_ok
theorem tt_chk (T : TypeId) (t : Ty) (h : tt.shape T = some t) : chkT Try.prog tt T t = true := chk_of tabs_ok T t h
theorem cfg_ok : CfgOk Try.prog cfg0 := ⟨tt_ok, body_of bodies_eq bodies_lt bodies_nm, fun f g h => by simp [cfg0] at h, prog_mixed⟩
end Go.Proofs.Ytgnnljpdcafdkaa.Ev
