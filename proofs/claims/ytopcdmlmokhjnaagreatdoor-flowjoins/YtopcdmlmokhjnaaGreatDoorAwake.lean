/-
  The self-test of FlowJoins returns true.
-/
import Derived.Test.YtopcdmlmokhjnaaGreatDoorRxLib
import Derived.Test.YtopcdmlmokhjnaaGreatDoorJEnv
import Derived.KernelRfl
set_option maxRecDepth 1000000
set_option maxHeartbeats 0
namespace Go.Proofs
open Go Go.Rx
theorem awakeJ : isTrue (closed EJ 5000 5 .nl 1000) = true := by kernel_rfl
theorem F5_get : EJ.funcs.get 5 = some Tryz.f5 := by kernel_rfl
theorem p5' : Pure EJ Tryz.prog 5 (fun _ : Unit => AV.nl) (fun _ => .bool true) :=
  pure_of_calls (fun w => call_of_names namesJ Tryz.func5 rfl #[] w) (closed_true envJ (fun ih h => draw_ok envJ h) rfl F5_get rfl awakeJ)
end Go.Proofs
