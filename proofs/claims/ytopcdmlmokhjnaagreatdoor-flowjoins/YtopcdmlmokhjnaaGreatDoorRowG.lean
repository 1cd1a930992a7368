/-
  FlowJoins: the row; its tied card.
-/
import Derived.Test.YtopcdmlmokhjnaaGreatDoorRowF
set_option maxRecDepth 100000
set_option linter.unusedVariables false
namespace Go.Proofs.YtopcdmlmokhjnaaGreatDoor
theorem funcNo : Tryz.prog.funcNamed "repartee/reparteelaw38.FlowJoins" = some 3 := by kernel_rfl
theorem inst : Tryz.f3.isInstance Tryz.prog Rows.flowJoinsRow.origin Rows.flowJoinsRow.targs := of_decide_eq_true (by kernel_rfl)
theorem wrapr : Tryz.f3.isWrapper Tryz.prog Rows.flowJoinsRow.wrapper Rows.flowJoinsRow.mainSum := by
  unfold Func.isWrapper; rw [if_neg (of_decide_eq_false (by kernel_rfl))]; exact ⟨rfl, rfl⟩
theorem row_holds : Rows.FlowJoinsSaid :=
  OpenClaim.holds_of_wide (p := Tryz.pinned) (s := Rows.flowJoinsSpec) (c := Rows.flowJoinsRow) 3 Tryz.f3 rfl rfl rfl rfl rfl rfl rfl ⟨rfl, rfl, rfl, rfl, rfl⟩ rfl rfl rfl rfl rfl funcNo Tryz.func3 closed
    inst wrapr
    (fun os started H enc _ => lifted os started H enc)
#print axioms row_holds
end Go.Proofs.YtopcdmlmokhjnaaGreatDoor
