/-
  What is to be known of a program so that the executor may run it.
-/
import Derived.Test.YtopcdmlmokhjnaaGreatDoorRxDraw6
open Go Go.Rx
namespace Go.Rx
/-- what is to be known of a program, by the kernel -/
def namesOk (P : Program) : Bool := P.funcs.toList.all fun fn => fn.body.isNone || !(fn.name == "runtime.NumGoroutine")
theorem call_of_names {P : Program} (h : namesOk P = true) {f : FuncId} {fn : Func} (hf : P.funcs[f]? = some fn) (hb : fn.body.isSome = true) (args : Array Value) (w : World) : (callFunc f args).run P w = .ok (.enter f args) w := by
  have hm : fn ∈ P.funcs.toList := by
    rw [Array.mem_toList_iff]
    exact Array.mem_of_getElem? hf
  have h1 := List.all_eq_true.1 h fn hm
  have h2 : fn.body.isNone = false := by
    cases hc : fn.body with
    | none => rw [hc] at hb; cases hb
    | some b => rfl
  have h3 : (fn.name == "runtime.NumGoroutine") = false := by
    rw [h2] at h1; simpa using h1
  simp only [callFunc, Sem.run_bind, run_program, Result.andThen_ok, hf, h3, h2, Bool.false_eq_true, if_false, Sem.run_pure]
theorem envOK_of {P : Program} {ext : FuncId → Option Nat} {ng : Nat} (hn : namesOk P = true) (h0 : ∀ f, ext f = some 0 → ∀ b w, (callFunc f #[.float .f64 b]).run P w = .ok (.value (.int .u64 b)) w)
    (h1 : ∀ f, ext f = some 1 → ∀ (n : Int) w, (callFunc f #[.int .u64 n]).run P w = .ok (.value (.float .f64 n.toNat)) w) (hm : P.follows .mixedOrders = true) :
    EnvOK (envOf P ext (fun t => notB (P.eqGuardType P.depth t)) ng) P := by
  have hfuncs : ∀ f fn, (envOf P ext (fun t => notB (P.eqGuardType P.depth t)) ng).funcs.get f = some fn → P.funcs[f]? = some fn := fun f fn h => by
    have := Tr.get_ofList 16 P.funcs.toList f fn h
    simpa using this
  refine ⟨fun t i h => ?_, hfuncs, fun f fn hf hb args w => call_of_names hn (hfuncs f fn hf) hb args w, h0, h1, fun t ht => ?_, hm⟩
  · have := Tr.get_ofList 16 P.types.toList t i h
    have h2 : P.types[t]? = some i := by simpa using this
    have hlt : t < P.types.size := (Array.getElem?_eq_some_iff.1 h2).1
    unfold Tables.info?
    rw [if_pos hlt]
    exact h2
  · have ht : notB (P.eqGuardType P.depth t) = true := ht
    cases hc : P.eqGuardType P.depth t with
    | false => rfl
    | true => rw [hc] at ht; cases ht
end Go.Rx
