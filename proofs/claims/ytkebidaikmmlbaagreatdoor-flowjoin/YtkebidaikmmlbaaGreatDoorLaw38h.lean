/-
  For all three facts a, b, c: reparteelaw38.FlowJoin returns true, and its arguments and the listed variables read behind the call as they did before.
  Conditions: the package-level variables that the row lists start as the program's text lays them (the card ties them to the text); no other.
-/
import Derived.Test.YtkebidaikmmlbaaGreatDoorLaw38g
set_option maxRecDepth 100000
set_option linter.unusedVariables false
namespace Go.Proofs.YtkebidaikmmlbaaGreatDoor
theorem params_ok : ([26].all fun u => !Tryz.prog.wantsStandIn u) = true := by kernel_rfl
theorem flowJoin_holds : Rows.FlowJoinCardSaid :=
  Claim7.holds_tied_plain_at .later [] [.data, .data, .widerDeep, .widerDeep, .data, .data, .data, .data, .data, .data, .sentinel, .sentinel, .pinned, .pinned, .pinned] true (true, "0bbf2f45380cc1fd59f341d0dbbf7a7872b5a23d4fb501325d5cdc22e43b8cd9") true
    row_holds (fun _ h => by cases h) (by kernel_rfl) (fun _ h => by cases h) flowJoin_row_tie rfl ⟨rfl, rfl⟩ (by kernel_rfl) rfl
    (fun f fn hf hfn => by
      obtain rfl : f = 3 := Option.some.inj (funcNo.symm.trans hf) |>.symm
      obtain rfl : fn = Tryz.f3 := (Option.some.inj (Tryz.func3.symm.trans hfn)).symm
      exact ⟨by kernel_rfl, fun j t ht => by
        rw [Tryz.params3] at ht
        have hm : t ∈ [26] := by
          have := Array.mem_of_getElem? ht
          simpa using this
        exact (show Tryz.prog.wantsStandIn t = false by simpa using List.all_eq_true.1 params_ok t hm)⟩)
    (by kernel_rfl)
#print axioms flowJoin_holds
end Go.Proofs.YtkebidaikmmlbaaGreatDoor
