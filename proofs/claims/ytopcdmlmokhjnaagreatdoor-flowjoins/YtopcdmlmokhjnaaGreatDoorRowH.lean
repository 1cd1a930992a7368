/-
  For all two facts a, b: reparteelaw38.FlowJoins returns true, and its arguments and the listed variables read behind the call as they did before.
  Conditions: the package-level variables that the row lists start as the program's text lays them (the card ties them to the text); no other.
-/
import Derived.Test.YtopcdmlmokhjnaaGreatDoorRowG
set_option maxRecDepth 100000
set_option linter.unusedVariables false
namespace Go.Proofs.YtopcdmlmokhjnaaGreatDoor
theorem params_ok : ([26].all fun u => !Tryz.prog.wantsStandIn u) = true := by kernel_rfl
theorem flowJoins_holds : Rows.FlowJoinsCardSaid :=
  Claim7.holds_tied_plain_at .later [] [.data, .data, .widerDeep, .widerDeep, .data, .data, .data, .data, .data, .data, .sentinel, .sentinel, .pinned, .pinned, .pinned] true (true, "60ba2a6ddd75b432d68ffc12c6155cd1213f07e1b8d1895409cb536cf7acb356") true
    row_holds (fun _ h => by cases h) (by kernel_rfl) (fun _ h => by cases h) flowJoins_row_tie rfl ⟨rfl, rfl⟩ (by kernel_rfl) rfl
    (fun f fn hf hfn => by
      obtain rfl : f = 3 := Option.some.inj (funcNo.symm.trans hf) |>.symm
      obtain rfl : fn = Tryz.f3 := (Option.some.inj (Tryz.func3.symm.trans hfn)).symm
      exact ⟨by kernel_rfl, fun j t ht => by
        rw [Tryz.params3] at ht
        have hm : t ∈ [26] := by
          have := Array.mem_of_getElem? ht
          simpa using this
        exact (show Tryz.prog.wantsStandIn t = false by simpa using List.all_eq_true.1 params_ok t hm)⟩)
    (by kernel_rfl)
#print axioms flowJoins_holds
end Go.Proofs.YtopcdmlmokhjnaaGreatDoor
