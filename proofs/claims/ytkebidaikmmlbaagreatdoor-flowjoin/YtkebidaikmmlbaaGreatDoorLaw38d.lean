/-
  FlowJoin is a function of values alone, and returns true.
-/
import Derived.Test.YtkebidaikmmlbaaGreatDoorLawAb
import Derived.Test.YtkebidaikmmlbaaGreatDoorAwake38
set_option linter.unusedVariables false
namespace Go.Proofs
open Go Go.Rx
theorem p3 : Pure E38 P38 3 (fun p : Fc × Fc × Fc => .cons (encF p.1) (.cons (encF p.2.1) (.cons (encF p.2.2) .nl))) (fun _ => .bool true) :=
  pure_of_run (L := fsExt (fsExt (fsExt (fsExt fs0 5 S5) 6 S6) 7 S7) 4 S4) env38 rfl (ext_pure (ext_pure (ext_pure (ext_pure fs0_ok p5) p6) p7) p4) (fun _ => rfl) (fun _ => rfl) fun p =>
    run3 p.1 p.2.1 p.2.2 self38 fun h1 h2 h3 => plain38 h1 h2 h3
end Go.Proofs
