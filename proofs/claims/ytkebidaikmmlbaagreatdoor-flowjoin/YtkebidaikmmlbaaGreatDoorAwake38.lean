/-
  A part of the proof that reparteelaw38.FlowJoin returns true.
-/
import Derived.Test.YtkebidaikmmlbaaGreatDoorRxLib
import Derived.Test.YtkebidaikmmlbaaGreatDoorRxEnv
import Derived.KernelRfl
set_option maxRecDepth 1000000
set_option maxHeartbeats 0
namespace Go.Proofs
open Go Go.Rx
theorem awake38 : isTrue (closed E38 5000 4 .nl 1000) = true := by kernel_rfl
theorem F4_get : E38.funcs.get 4 = some Tryz.f4 := by kernel_rfl
theorem p4 : Pure E38 Tryz.prog 4 (fun _ : Unit => AV.nl) (fun _ => .bool true) :=
  pure_of_calls (fun w => call_of_names names38 Tryz.func4 rfl #[] w) (closed_true env38 (fun ih h => draw_ok env38 h) rfl F4_get rfl awake38)
end Go.Proofs
