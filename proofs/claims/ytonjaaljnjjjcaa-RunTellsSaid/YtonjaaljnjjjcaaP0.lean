/- The program, and that its regions are drawn under mixed orders. -/
import Derived.Test.YtonjaaljnjjjcaaV6
import Derived.Test.YtonjaaljnjjjcaaChecked
import Derived.KernelRfl
set_option linter.unusedVariables false
set_option linter.unusedSimpArgs false
namespace Go.Proofs.Ytonjaaljnjjjcaa
open Go
noncomputable abbrev Pr : Program := Try.prog
theorem follows : Pr.follows .mixedOrders = true := by kernel_rfl
theorem by_eq {A B : Prop} (h : B) (e : A = B) : A := e ▸ h
end Go.Proofs.Ytonjaaljnjjjcaa
