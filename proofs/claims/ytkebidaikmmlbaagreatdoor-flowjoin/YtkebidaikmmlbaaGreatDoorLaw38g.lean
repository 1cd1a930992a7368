/-
  FlowJoin: the row; its tied card.
-/
import Derived.Test.YtkebidaikmmlbaaGreatDoorLaw38f
set_option maxRecDepth 100000
set_option linter.unusedVariables false
namespace Go.Proofs.YtkebidaikmmlbaaGreatDoor
theorem funcNo : Tryz.prog.funcNamed "repartee/reparteelaw38.FlowJoin" = some 3 := by kernel_rfl
theorem inst : Tryz.f3.isInstance Tryz.prog Rows.flowJoinRow.origin Rows.flowJoinRow.targs := of_decide_eq_true (by kernel_rfl)
theorem wrapr : Tryz.f3.isWrapper Tryz.prog Rows.flowJoinRow.wrapper Rows.flowJoinRow.mainSum := by
  unfold Func.isWrapper; rw [if_neg (of_decide_eq_false (by kernel_rfl))]; exact ⟨rfl, rfl⟩
theorem row_holds : Rows.FlowJoinSaid :=
  OpenClaim.holds_of_wide (p := Tryz.pinned) (s := Rows.flowJoinSpec) (c := Rows.flowJoinRow) 3 Tryz.f3 rfl rfl rfl rfl rfl rfl rfl ⟨rfl, rfl, rfl, rfl, rfl⟩ rfl rfl rfl rfl rfl funcNo Tryz.func3 closed
    inst wrapr
    (fun os started H enc _ => lifted os started H enc)
#print axioms row_holds
end Go.Proofs.YtkebidaikmmlbaaGreatDoor
