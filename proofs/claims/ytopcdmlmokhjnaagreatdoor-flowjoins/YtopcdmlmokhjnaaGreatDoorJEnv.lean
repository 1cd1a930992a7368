/-
  The program of FlowJoins' seat, for the executor.
-/
import Derived.Test.YtopcdmlmokhjnaaGreatDoorRxEnv0
import Derived.Test.YtopcdmlmokhjnaaGreatDoorProg
open Go Go.Rx
namespace Go.Proofs
def extJ : FuncId → Option Nat := fun f => if f = 34 then some 0 else if f = 33 then some 1 else none
noncomputable def EJ : Rx.Env := envOf Tryz.prog extJ (fun t => notB (Tryz.prog.eqGuardType Tryz.prog.depth t)) 0
theorem namesJ : namesOk Tryz.prog = true := by kernel_rfl
theorem mixedJ : Tryz.prog.follows .mixedOrders = true := by kernel_rfl
theorem e0 (b : Nat) (w : World) : (callFunc 34 #[.float .f64 b]).run Tryz.prog w = .ok (.value (.int .u64 b)) w := by kernel_rfl
theorem e1 (n : Int) (w : World) : (callFunc 33 #[.int .u64 n]).run Tryz.prog w = .ok (.value (.float .f64 n.toNat)) w := by kernel_rfl
end Go.Proofs

namespace Go.Proofs
open Go.Rx
set_option maxRecDepth 1000000
set_option maxHeartbeats 0
theorem envJ : EnvOK EJ Tryz.prog :=
  envOK_of namesJ (fun f h => by
    unfold extJ at h
    by_cases h1 : f = 34
    · subst h1; exact e0
    · rw [if_neg h1] at h
      by_cases h2 : f = 33
      · rw [if_pos h2] at h; cases h
      · rw [if_neg h2] at h; cases h) (fun f h => by
    unfold extJ at h
    by_cases h1 : f = 34
    · rw [if_pos h1] at h; cases h
    · rw [if_neg h1] at h
      by_cases h2 : f = 33
      · subst h2; exact e1
      · rw [if_neg h2] at h; cases h) mixedJ
end Go.Proofs
