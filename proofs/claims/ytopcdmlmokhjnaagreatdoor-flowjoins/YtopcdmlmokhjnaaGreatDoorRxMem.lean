/-
  Memory that only grows.
-/
import Derived.Test.YtopcdmlmokhjnaaGreatDoorRxSlc
set_option linter.unusedVariables false
namespace Go.Rx
/-- nothing of what was is written over -/
structure Keeps (m m' : Mem) : Prop where
  nx : m.nx ≤ m'.nx
  lo : m'.lo = m.lo
  get : ∀ i, i < m.nx → m'.hp.get i = m.hp.get i
theorem Keeps.refl (m : Mem) : Keeps m m := ⟨Nat.le_refl _, rfl, fun _ _ => rfl⟩
theorem Keeps.trans {a b c : Mem} (h : Keeps a b) (g : Keeps b c) : Keeps a c :=
  ⟨Nat.le_trans h.nx g.nx, g.lo.trans h.lo, fun i hi => (g.get i (Nat.lt_of_lt_of_le hi h.nx)).trans (h.get i hi)⟩
theorem Keeps.new {a : Mem} {hp : Tr Bk} {n lo : Nat} {x : Option Bk} {i : Nat} (h : Keeps a ⟨hp, n, lo⟩) (hi : a.nx ≤ i) {n' : Nat} (hn : n ≤ n') : Keeps a ⟨hp.set x i, n', lo⟩ :=
  ⟨Nat.le_trans h.nx hn, h.lo, fun j hj => by
    show (hp.set x i).get j = _
    rw [Tr.get_set_ne _ _ (by omega)]
    exact h.get j hj⟩
theorem lt_self_add {a k : Nat} (h : k ≠ 0) : a < a + k := by omega
theorem s_nlt (a b c : Nat) : (a + b < a + c) = (b < c) := by simp
theorem s_nle (a b c : Nat) : (a + b ≤ a + c) = (b ≤ c) := by simp
theorem s_neq' (a b c : Nat) : (a + b = a + c) = (b = c) := by simp
theorem s_neq0 (a b : Nat) : (a + b = a) = (b = 0) := by simp
theorem s_neq1 (a b : Nat) : (a = a + b) = (b = 0) := by simp
theorem s_nle0 (a b : Nat) : (a ≤ a + b) = True := by simp
theorem s_nlt0 (a b : Nat) : (a + b < a) = False := by simp
theorem s_nlt1 (a b : Nat) : (a < a + b) = (0 < b) := by simp
theorem s_nle1 (a b : Nat) : (a + b ≤ a) = (b = 0) := propext ⟨fun h => by omega, fun h => by omega⟩
end Go.Rx
namespace Go.Rx
theorem keeps_mk {m : Mem} {hp : Tr Bk} {n : Nat} (hn : m.nx ≤ n) (h : ∀ i, i < m.nx → hp.get i = m.hp.get i) : Keeps m ⟨hp, n, m.lo⟩ := ⟨hn, rfl, h⟩
end Go.Rx
