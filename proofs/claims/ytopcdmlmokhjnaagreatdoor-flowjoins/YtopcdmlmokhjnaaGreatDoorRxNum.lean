/-
  Rules for whole numbers of 64 bits.
-/
import Derived.Test.YtopcdmlmokhjnaaGreatDoorRxSimp
set_option linter.unusedVariables false
namespace Go.Rx
section
variable {E : Env} {t : TypeId}
theorem wrap_u64 {n : Nat} (h : n < 18446744073709551616) : IntKind.wrap .u64 (n : Int) = n := by
  have e : IntKind.wrap .u64 (n : Int) = (n : Int) % 18446744073709551616 := rfl
  rw [e]; omega
theorem wrap_i64 {n : Nat} (h : n < 9223372036854775808) : IntKind.wrap .i64 (n : Int) = n := by
  have e : IntKind.wrap .i64 (n : Int) = if (n : Int) % 18446744073709551616 ≥ 9223372036854775808 then (n : Int) % 18446744073709551616 - 18446744073709551616 else (n : Int) % 18446744073709551616 := by
    unfold IntKind.wrap
    simp [IntKind.signed, IntKind.bits]
  rw [e, if_neg (by omega)]; omega
theorem s_subu {a b : Nat} (h : b ≤ a) (ha : a < 18446744073709551616) (k : AV → R) : binC E .sub t (.int .u64 (.ofNat a)) (.int .u64 (.ofNat b)) k = k (.int .u64 (.ofNat (a - b))) := by
  show k (.int .u64 (IntKind.wrap .u64 ((a : Int) - (b : Int)))) = _
  rw [show (a : Int) - (b : Int) = ((a - b : Nat) : Int) by omega, wrap_u64 (by omega)]; rfl
theorem s_quou {a b : Nat} (hb : b ≠ 0) (ha : a < 18446744073709551616) (k : AV → R) : binC E .quo t (.int .u64 (.ofNat a)) (.int .u64 (.ofNat b)) k = k (.int .u64 (.ofNat (a / b))) := by
  have hb' : ¬ ((b : Int) = 0) := by omega
  have e : pureV (Go.binOp .quo 0 (.int .u64 (.ofNat a)) (.int .u64 (.ofNat b))) = some (.int .u64 (IntKind.wrap .u64 (Int.tdiv a b))) := by
    show pureV (Op.intDiv .quo .u64 (a : Int) (b : Int)) = _
    unfold Op.intDiv
    rw [if_neg hb']; rfl
  show intOp .quo .u64 (.ofNat a) .u64 (.ofNat b) k = _
  unfold intOp
  rw [e]
  show k (.int .u64 (IntKind.wrap .u64 (Int.tdiv a b))) = _
  rw [show Int.tdiv (a : Int) (b : Int) = ((a / b : Nat) : Int) from rfl, wrap_u64 (Nat.lt_of_le_of_lt (Nat.div_le_self _ _) ha)]; rfl
theorem s_remu {a b : Nat} (hb : b ≠ 0) (k : AV → R) : binC E .rem t (.int .u64 (.ofNat a)) (.int .u64 (.ofNat b)) k = k (.int .u64 (.ofNat (a % b))) := by
  have hb' : ¬ ((b : Int) = 0) := by omega
  have e : pureV (Go.binOp .rem 0 (.int .u64 (.ofNat a)) (.int .u64 (.ofNat b))) = some (.int .u64 (Int.tmod a b)) := by
    show pureV (Op.intDiv .rem .u64 (a : Int) (b : Int)) = _
    unfold Op.intDiv
    rw [if_neg hb']; rfl
  show intOp .rem .u64 (.ofNat a) .u64 (.ofNat b) k = _
  unfold intOp
  rw [e]; rfl
theorem cmpI {op : BinOp} {j : IntKind} {a b : Int} {r : Bool} (h1 : ∀ m n, a = .ofNat m → b = .ofNat n → ∀ k : AV → R, binC E op t (.int j (.ofNat m)) (.int j (.ofNat n)) k = k (.bool r)) (h2 : pureV (Go.binOp op 0 (.int j a) (.int j b)) = some (.bool r)) (k : AV → R) :
    binC E op t (.int j a) (.int j b) k = k (.bool r) := by
  have slow : intOp op j a j b k = k (.bool r) := by unfold intOp; rw [h2]; rfl
  cases a with
  | ofNat m =>
    cases b with
    | ofNat n => exact h1 m n rfl rfl k
    | negSucc n => exact slow
  | negSucc m => exact slow
theorem s_eqI (j : IntKind) (a b : Int) (k : AV → R) : binC E .eql t (.int j a) (.int j b) k = k (.bool (decide (a = b))) := by
  refine cmpI (fun m n ha hb k => ?_) ?_ k
  · subst ha hb
    rw [s_eql]
    congr 2
    simp only [Int.ofNat_eq_natCast, Int.ofNat_inj, Int.ofNat_lt, decide_eq_decide, Bool.not_inj_iff]
    try omega
  · show pureV (if j ≠ j then _ else Op.intCmp .eql a b) = _
    rw [if_neg (by simp)]
    show some (Value.bool (a == b)) = _
    congr 2
theorem s_neI (j : IntKind) (a b : Int) (k : AV → R) : binC E .neq t (.int j a) (.int j b) k = k (.bool (!decide (a = b))) := by
  refine cmpI (fun m n ha hb k => ?_) ?_ k
  · subst ha hb
    rw [s_neq]
    congr 2
    simp only [Int.ofNat_eq_natCast, Int.ofNat_inj, Int.ofNat_lt, decide_eq_decide, Bool.not_inj_iff]
    try omega
  · show pureV (if j ≠ j then _ else Op.intCmp .neq a b) = _
    rw [if_neg (by simp)]
    show some (Value.bool (a != b)) = _
    congr 2
theorem s_ltI (j : IntKind) (a b : Int) (k : AV → R) : binC E .lss t (.int j a) (.int j b) k = k (.bool (decide (a < b))) := by
  refine cmpI (fun m n ha hb k => ?_) ?_ k
  · subst ha hb
    rw [s_lss]
    congr 2
    simp only [Int.ofNat_eq_natCast, Int.ofNat_inj, Int.ofNat_lt, decide_eq_decide, Bool.not_inj_iff]
    try omega
  · show pureV (if j ≠ j then _ else Op.intCmp .lss a b) = _
    rw [if_neg (by simp)]
    show some (Value.bool (decide (a < b))) = _
    congr 2
theorem s_gtI (j : IntKind) (a b : Int) (k : AV → R) : binC E .gtr t (.int j a) (.int j b) k = k (.bool (decide (b < a))) := by
  refine cmpI (fun m n ha hb k => ?_) ?_ k
  · subst ha hb
    rw [s_gtr]
    congr 2
    simp only [Int.ofNat_eq_natCast, Int.ofNat_inj, Int.ofNat_lt, decide_eq_decide, Bool.not_inj_iff]
    try omega
  · show pureV (if j ≠ j then _ else Op.intCmp .gtr a b) = _
    rw [if_neg (by simp)]
    show some (Value.bool (decide (a > b))) = _
    congr 2
end
end Go.Rx
