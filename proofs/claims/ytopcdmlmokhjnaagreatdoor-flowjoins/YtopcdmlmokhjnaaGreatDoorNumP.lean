/-
  Numbers of 64 bits with a point: when two are the same; their parts.
-/
import Derived.Test.YtopcdmlmokhjnaaGreatDoorRxNum
set_option linter.unusedVariables false
set_option linter.unusedSimpArgs false
namespace Go.Rx
def nanB (x : Nat) : Bool := decide (9218868437227405312 < x % 9223372036854775808)
theorem order_self (d : Ieee.Datum) : d.order d = if d.isNaN = true then none else some .eq := by
  cases d with
  | number s m i =>
    show some (compare _ _) = some _
    congr 1
    exact Int.compare_eq_eq.2 rfl
  | infinity s =>
    show some (compare _ _) = some _
    congr 1
    exact Nat.compare_eq_eq.2 rfl
  | nan s t => rfl
theorem read_nan (x : Nat) : (Ieee.double.read x).isNaN = nanB x := by
  unfold nanB Ieee.Format.read
  have h1 : Ieee.double.signWeight = 9223372036854775808 := rfl
  have h2 : Ieee.double.binade = 4503599627370496 := rfl
  have h3 : Ieee.double.infRung = 9218868437227405312 := rfl
  simp only [h1, h2, h3]
  generalize x % 9223372036854775808 = y
  split
  · rw [decide_eq_false (by omega)]; rfl
  · split
    · rw [decide_eq_false (by omega)]; rfl
    · split
      · rw [decide_eq_false (by omega)]; rfl
      · rw [decide_eq_true (by omega)]; rfl
theorem fneq_self (x : Nat) : fcmp .neq x x = nanB x := by
  show (Ieee.double.order x x != some .eq) = _
  unfold Ieee.Format.order
  rw [order_self, read_nan]
  cases nanB x <;> rfl
theorem feql_self (x : Nat) : fcmp .eql x x = !nanB x := by
  show (Ieee.double.order x x == some .eq) = _
  unfold Ieee.Format.order
  rw [order_self, read_nan]
  cases nanB x <;> rfl
/-- a number's parts: what it is, its sign, its digits, its exponent -/
structure Pt where
  k : Nat
  n : Bool
  m : Nat
  p : Int
def magF (b : Nat) : Nat := if 9223372036854775808 ≤ b then b - 9223372036854775808 else b
def sgnF (b : Nat) : Bool := decide (9223372036854775808 ≤ b)
def partsF (b : Nat) : Pt :=
  if magF b / 4503599627370496 = 2047 then (if 0 < magF b % 4503599627370496 then ⟨0, false, 0, 0⟩ else ⟨1, sgnF b, 0, 0⟩)
  else if magF b / 4503599627370496 = 0 then ⟨2, sgnF b, magF b % 4503599627370496, -1074⟩
  else ⟨2, sgnF b, magF b % 4503599627370496 + 4503599627370496, ((magF b / 4503599627370496 : Nat) : Int) - 1075⟩
def rankF (k : Nat) (n : Bool) : Nat := if k = 0 then 4 else if k = 1 then (if n = true then 0 else 3) else if n = true then 1 else 2
/-- how two numbers stand to each other -/
def cmpF (a b : Nat) : Int :=
  if rankF (partsF a).k (partsF a).n ≠ rankF (partsF b).k (partsF b).n then (if rankF (partsF a).k (partsF a).n < rankF (partsF b).k (partsF b).n then -1 else 1)
  else
    let c : Int := if (partsF a).p ≠ (partsF b).p then (if (partsF a).p < (partsF b).p then -1 else 1) else if (partsF a).m < (partsF b).m then -1 else if (partsF b).m < (partsF a).m then 1 else 0
    if rankF (partsF a).k (partsF a).n = 1 then -c else c
theorem cmp_zero (a b : Nat) : cmpF a b = 0 ↔ rankF (partsF a).k (partsF a).n = rankF (partsF b).k (partsF b).n ∧ (partsF a).p = (partsF b).p ∧ (partsF a).m = (partsF b).m := by
  unfold cmpF
  generalize rankF (partsF a).k (partsF a).n = x
  generalize rankF (partsF b).k (partsF b).n = y
  generalize (partsF a).p = p
  generalize (partsF b).p = q
  generalize (partsF a).m = m
  generalize (partsF b).m = n
  dsimp only
  repeat' split
  all_goals omega
theorem mag_lt {a : Nat} (h : a < 18446744073709551616) : magF a < 9223372036854775808 := by unfold magF; split <;> omega
theorem mag_mod {a : Nat} (h : a < 18446744073709551616) : a % 9223372036854775808 = magF a := by unfold magF; split <;> omega
theorem parts_nan {a : Nat} (h : a < 18446744073709551616) : (partsF a).k = 0 ↔ nanB a = true := by
  unfold nanB partsF
  rw [mag_mod h, decide_eq_true_iff]
  have := mag_lt h
  generalize magF a = m at *
  repeat' split
  all_goals simp <;> omega
theorem parts_same {a b : Nat} (ha : a < 18446744073709551616) (hb : b < 18446744073709551616) :
    (rankF (partsF a).k (partsF a).n = rankF (partsF b).k (partsF b).n ∧ (partsF a).p = (partsF b).p ∧ (partsF a).m = (partsF b).m) ↔ (nanB a = true ∧ nanB b = true ∨ nanB a = false ∧ nanB b = false ∧ a = b) := by
  have ea : a = magF a + if sgnF a = true then 9223372036854775808 else 0 := by unfold magF sgnF; simp only [decide_eq_true_eq]; split <;> omega
  have eb : b = magF b + if sgnF b = true then 9223372036854775808 else 0 := by unfold magF sgnF; simp only [decide_eq_true_eq]; split <;> omega
  have la := mag_lt ha
  have lb := mag_lt hb
  unfold nanB
  rw [mag_mod ha, mag_mod hb]
  rw [show (a = b) = (magF a + (if sgnF a = true then 9223372036854775808 else 0) = magF b + if sgnF b = true then 9223372036854775808 else 0) by rw [← ea, ← eb]]
  unfold partsF
  generalize magF a = x at *
  generalize magF b = y at *
  generalize sgnF a = s at *
  generalize sgnF b = t at *
  clear ea eb ha hb
  simp only [decide_eq_true_eq, decide_eq_false_iff_not]
  repeat' split
  all_goals cases s <;> cases t <;> simp [rankF] at * <;> omega
end Go.Rx
