/-
  More operations: operators.
-/
import Derived.Test.YtopcdmlmokhjnaaGreatDoorRxOp1
import Derived.ChangeKeysEq
import Derived.Laws.Strings2
import Derived.Laws.StructEq
import Derived.IntWalk
set_option linter.unusedVariables false
set_option linter.unusedSimpArgs false
set_option linter.unusedSectionVars false
namespace Go.Rx

noncomputable def pb (b : Bool) : R := pv (.bool b)
theorem pb_inj {a b : Bool} (h : pb a = some (VM.mk (.bool b) ⟨.e, 0, 0⟩)) : a = b := by cases h; rfl

/-- what is known of a comparison for being equal -/
def EqFact (P : Program) (w : World) (t : TypeId) (vx vy : Value) (b : Bool) : Prop :=
  (binOp .eql t vx vy).run P w = .ok (.bool b) w ∧ (binOp .neq t vx vy).run P w = .ok (.bool (!b)) w ∧ ∀ op xo yo, (eqGuard op t xo yo vx vy).run P w = .ok () w
theorem ite_ok {α : Sort _} {c : Prop} [Decidable c] {x y r : α} (hx : x = r) (hy : y = r) : (if c then x else y) = r := by split <;> assumption
theorem run_eqGuard_of {P : Program} {w : World} {t : TypeId} {vx vy : Value} (h1 : vx ≠ .nilIface ∨ vy ≠ .nilIface) (h2 : (∀ cs, vx ≠ .agg cs) ∨ (∀ cs, vy ≠ .agg cs)) (op : BinOp) (xo yo : Operand) :
    (eqGuard op t xo yo vx vy).run P w = .ok () w := by
  unfold eqGuard
  rw [Sem.run_ite]
  refine ite_ok rfl ?_
  split
  · rcases h1 with h | h <;> exact absurd rfl h
  · rcases h2 with h | h
    · exact absurd rfl (h _)
    · exact absurd rfl (h _)
  · rfl

section
variable {E : Env} {P : Program} (hE : EnvOK E P) {t : TypeId} (w : World) {ρ : Ren}
include hE
theorem eqInts_val {e : TypeId} {kd : IntKind} (he : ty E e = some (.int kd)) (d : Nat) {lx ly : List Value} : ∀ (n off : Nat) (xs ys : AV) (b : Bool), eqInts n xs ys pb = pb b → LR ρ xs (lx.drop off) → LR ρ ys (ly.drop off) →
    (Op.eqItems (d + 1) e 1 ⟨lx⟩ ⟨ly⟩ (List.range' off n)).run P w = .ok b w := by
  intro n
  induction n with
  | zero => intro off xs ys b h _ _; have := pb_inj (show pb true = _ from h); subst this; simp [Op.eqItems]
  | succ n ih =>
    intro off xs ys b h hx hy
    have h' : avCons xs (fun x xt => avCons ys fun y yt => avInt x fun j a => avInt y fun j' b => br (decide (j = j')) (br (decide (a = b)) (eqInts n xt yt pb) (pb false)) none) = some (VM.mk (.bool b) ⟨.e, 0, 0⟩) := h
    obtain ⟨x, xt, rfl, h1⟩ := avCons_some h'
    obtain ⟨y, yt, rfl, h2⟩ := avCons_some h1
    obtain ⟨j, p, rfl, h3⟩ := avInt_some h2
    obtain ⟨j', q, rfl, h4⟩ := avInt_some h3
    obtain ⟨hj, h5⟩ := br_none h4
    clear h1 h2 h3 h4 h'
    have h' := h5
    clear h5
    have hj := of_decide_eq_true hj
    subst hj
    obtain ⟨v, ms, hlx, hv, hxt⟩ := hx.get rfl
    obtain ⟨v', ms', hly, hv', hyt⟩ := hy.get rfl
    have := vr_int hv; subst this
    have := vr_int hv'; subst this
    have gx : lx[off]? = some (.int j p) := by have : (lx.drop off)[0]? = some (.int j p) := by rw [hlx]; rfl
                                               rwa [List.getElem?_drop] at this
    have gy : ly[off]? = some (.int j q) := by have : (ly.drop off)[0]? = some (.int j q) := by rw [hly]; rfl
                                               rwa [List.getElem?_drop] at this
    have hag : (isAgg e).run P w = .ok false w := by
      have : isAgg e = (underlying e >>= fun d => match d with | .struct _ | .array _ _ => pure true | _ => pure false) := rfl
      rw [this, Sem.run_bind, run_und hE w he]; rfl
    have r1 : (part e ⟨lx⟩ off).run P w = .ok (.int j p) w := run_part_one hag (by simpa using gx)
    have r2 : (part e ⟨ly⟩ off).run P w = .ok (.int j q) w := run_part_one hag (by simpa using gy)
    have r3 := run_equalIn_int (P := P) w d e j kd p q (ty_ok hE he)
    rw [show List.range' off (n + 1) = off :: List.range' (off + 1) n from rfl]
    simp only [Op.eqItems, Sem.run_bind, Nat.mul_one, r1, r2, r3, Result.andThen_ok]
    by_cases hpq : p = q
    · subst hpq
      have h' : eqInts n xt yt pb = pb b := by rw [decide_eq_true rfl] at h'; exact h'
      have dx : lx.drop (off + 1) = ms := by rw [← List.drop_drop, hlx]; rfl
      have dy : ly.drop (off + 1) = ms' := by rw [← List.drop_drop, hly]; rfl
      simpa using ih (off + 1) xt yt b h' (by rw [dx]; exact hxt) (by rw [dy]; exact hyt)
    · have h' : pb false = pb b := by rw [decide_eq_false hpq] at h'; exact h'
      have := pb_inj h'; subst this
      simp [hpq]
omit hE in
theorem eqNil1 {d : TypeDesc} (hu : P.underlying t = some d) {x y : AV} {vx vy : Value} {b : Bool} (hx : isNilAt d x = true) (hy : someAt d y = true) (hb : isNil y pb = pb b) (vrx : VR ρ x vx) (vry : VR ρ y vy) : EqFact P w t vx vy b := by
  have hund : (underlying t).run P w = .ok d w := by simp [underlying, hu]
  have key : (Op.equal t vx vy).run P w = .ok b w ∧ (binOp .eql t vx vy = do pure (.bool (← Op.equal t vx vy))) ∧ (binOp .neq t vx vy = do pure (.bool (!(← Op.equal t vx vy)))) ∧ (∀ cs, vx ≠ .agg cs) ∧ vx ≠ .nilIface := by
    have e0 : ∀ a b, Op.equal t a b = Op.equalIn (9999 + 1) t a b := fun _ _ => rfl
    cases x with
    | oth v =>
      obtain ⟨rfl, _⟩ := vr_oth vrx
      have hx : nilAt d vx = true := hx
      cases d with
      | pointer p =>
        cases vx with
        | pointer a =>
          cases a with
          | none =>
            cases y with
            | ptr b' o =>
              obtain ⟨l, _, rfl⟩ := vr_ptr vry
              have := pb_inj (show pb false = _ from hb); subst this
              refine ⟨?_, rfl, rfl, (by intro cs e; cases e), (by intro e; cases e)⟩
              rw [e0, Op.equalIn]; simp [hund]
            | oth v =>
              obtain ⟨rfl, _⟩ := vr_oth vry
              have hy : nilAt (.pointer p) vy = true := hy
              cases vy with
              | pointer a =>
                cases a with
                | none =>
                  have := pb_inj (show pb true = _ from hb); subst this
                  refine ⟨?_, rfl, rfl, (by intro cs e; cases e), (by intro e; cases e)⟩
                  rw [e0, Op.equalIn]; simp [hund]
                | some a => cases hy
              | _ => cases hy
            | _ => cases hy
          | some a => cases hx
        | _ => cases hx
      | slice p =>
        cases vx with
        | slice a =>
          cases a with
          | none =>
            cases y with
            | slc b' o =>
              obtain ⟨l, _, _, _, rfl⟩ := vr_slc vry
              have := pb_inj (show pb false = _ from hb); subst this
              refine ⟨?_, rfl, rfl, (by intro cs e; cases e), (by intro e; cases e)⟩
              rw [e0, Op.equalIn]; simp [hund]
            | oth v =>
              obtain ⟨rfl, _⟩ := vr_oth vry
              have hy : nilAt (.slice p) vy = true := hy
              cases vy with
              | slice a =>
                cases a with
                | none =>
                  have := pb_inj (show pb true = _ from hb); subst this
                  refine ⟨?_, rfl, rfl, (by intro cs e; cases e), (by intro e; cases e)⟩
                  rw [e0, Op.equalIn]; simp [hund]
                | some a => cases hy
              | _ => cases hy
            | _ => cases hy
          | some a => cases hx
        | _ => cases hx
      | map p q =>
        cases vx with
        | map a =>
          cases a with
          | none =>
            cases y with
            | map b' =>
              obtain ⟨l, _, rfl⟩ := vr_map vry
              have := pb_inj (show pb false = _ from hb); subst this
              refine ⟨?_, rfl, rfl, (by intro cs e; cases e), (by intro e; cases e)⟩
              rw [e0, Op.equalIn]; simp [hund]
            | oth v =>
              obtain ⟨rfl, _⟩ := vr_oth vry
              have hy : nilAt (.map p q) vy = true := hy
              cases vy with
              | map a =>
                cases a with
                | none =>
                  have := pb_inj (show pb true = _ from hb); subst this
                  refine ⟨?_, rfl, rfl, (by intro cs e; cases e), (by intro e; cases e)⟩
                  rw [e0, Op.equalIn]; simp [hund]
                | some a => cases hy
              | _ => cases hy
            | _ => cases hy
          | some a => cases hx
        | _ => cases hx
      | func p q s =>
        cases vx with
        | nilFunc =>
          cases y with
          | fn f c =>
            obtain ⟨l, _, rfl⟩ := vr_fn vry
            have := pb_inj (show pb false = _ from hb); subst this
            refine ⟨?_, rfl, rfl, (by intro cs e; cases e), (by intro e; cases e)⟩
            rw [e0, Op.equalIn]; simp [hund]
          | yld f =>
            obtain ⟨l, _, rfl⟩ := vr_yld vry
            have := pb_inj (show pb false = _ from hb); subst this
            refine ⟨?_, rfl, rfl, (by intro cs e; cases e), (by intro e; cases e)⟩
            rw [e0, Op.equalIn]; simp [hund]
          | oth v =>
            obtain ⟨rfl, _⟩ := vr_oth vry
            have hy : nilAt (.func p q s) vy = true := hy
            cases vy with
            | nilFunc =>
              have := pb_inj (show pb true = _ from hb); subst this
              refine ⟨?_, rfl, rfl, (by intro cs e; cases e), (by intro e; cases e)⟩
              rw [e0, Op.equalIn]; simp [hund]
            | _ => cases hy
          | _ => cases hy
        | _ => cases hx
      | _ => cases hx
    | _ => cases hx
  obtain ⟨k1, k2, k3, k4, k5⟩ := key
  refine ⟨?_, ?_, fun op xo yo => run_eqGuard_of (.inl k5) (.inl k4) op xo yo⟩
  · rw [k2, Sem.run_bind, k1]; rfl
  · rw [k3, Sem.run_bind, k1]; rfl
omit hE in
theorem eqNil2 {d : TypeDesc} (hu : P.underlying t = some d) {x y : AV} {vx vy : Value} {b : Bool} (hx : isNilAt d y = true) (hy : someAt d x = true) (hb : isNil x pb = pb b) (vrx : VR ρ x vx) (vry : VR ρ y vy) : EqFact P w t vx vy b := by
  have hund : (underlying t).run P w = .ok d w := by simp [underlying, hu]
  have key : (Op.equal t vx vy).run P w = .ok b w ∧ (binOp .eql t vx vy = do pure (.bool (← Op.equal t vx vy))) ∧ (binOp .neq t vx vy = do pure (.bool (!(← Op.equal t vx vy)))) ∧ (∀ cs, vy ≠ .agg cs) ∧ vy ≠ .nilIface := by
    have e0 : ∀ a b, Op.equal t a b = Op.equalIn (9999 + 1) t a b := fun _ _ => rfl
    cases y with
    | oth v =>
      obtain ⟨rfl, _⟩ := vr_oth vry
      have hx : nilAt d vy = true := hx
      cases d with
      | pointer p =>
        cases vy with
        | pointer a =>
          cases a with
          | none =>
            cases x with
            | ptr b' o =>
              obtain ⟨l, _, rfl⟩ := vr_ptr vrx
              have := pb_inj (show pb false = _ from hb); subst this
              refine ⟨?_, rfl, rfl, (by intro cs e; cases e), (by intro e; cases e)⟩
              rw [e0, Op.equalIn]; simp [hund]
            | oth v =>
              obtain ⟨rfl, _⟩ := vr_oth vrx
              have hy : nilAt (.pointer p) vx = true := hy
              cases vx with
              | pointer a =>
                cases a with
                | none =>
                  have := pb_inj (show pb true = _ from hb); subst this
                  refine ⟨?_, rfl, rfl, (by intro cs e; cases e), (by intro e; cases e)⟩
                  rw [e0, Op.equalIn]; simp [hund]
                | some a => cases hy
              | _ => cases hy
            | _ => cases hy
          | some a => cases hx
        | _ => cases hx
      | slice p =>
        cases vy with
        | slice a =>
          cases a with
          | none =>
            cases x with
            | slc b' o =>
              obtain ⟨l, _, _, _, rfl⟩ := vr_slc vrx
              have := pb_inj (show pb false = _ from hb); subst this
              refine ⟨?_, rfl, rfl, (by intro cs e; cases e), (by intro e; cases e)⟩
              rw [e0, Op.equalIn]; simp [hund]
            | oth v =>
              obtain ⟨rfl, _⟩ := vr_oth vrx
              have hy : nilAt (.slice p) vx = true := hy
              cases vx with
              | slice a =>
                cases a with
                | none =>
                  have := pb_inj (show pb true = _ from hb); subst this
                  refine ⟨?_, rfl, rfl, (by intro cs e; cases e), (by intro e; cases e)⟩
                  rw [e0, Op.equalIn]; simp [hund]
                | some a => cases hy
              | _ => cases hy
            | _ => cases hy
          | some a => cases hx
        | _ => cases hx
      | map p q =>
        cases vy with
        | map a =>
          cases a with
          | none =>
            cases x with
            | map b' =>
              obtain ⟨l, _, rfl⟩ := vr_map vrx
              have := pb_inj (show pb false = _ from hb); subst this
              refine ⟨?_, rfl, rfl, (by intro cs e; cases e), (by intro e; cases e)⟩
              rw [e0, Op.equalIn]; simp [hund]
            | oth v =>
              obtain ⟨rfl, _⟩ := vr_oth vrx
              have hy : nilAt (.map p q) vx = true := hy
              cases vx with
              | map a =>
                cases a with
                | none =>
                  have := pb_inj (show pb true = _ from hb); subst this
                  refine ⟨?_, rfl, rfl, (by intro cs e; cases e), (by intro e; cases e)⟩
                  rw [e0, Op.equalIn]; simp [hund]
                | some a => cases hy
              | _ => cases hy
            | _ => cases hy
          | some a => cases hx
        | _ => cases hx
      | func p q s =>
        cases vy with
        | nilFunc =>
          cases x with
          | fn f c =>
            obtain ⟨l, _, rfl⟩ := vr_fn vrx
            have := pb_inj (show pb false = _ from hb); subst this
            refine ⟨?_, rfl, rfl, (by intro cs e; cases e), (by intro e; cases e)⟩
            rw [e0, Op.equalIn]; simp [hund]
          | yld f =>
            obtain ⟨l, _, rfl⟩ := vr_yld vrx
            have := pb_inj (show pb false = _ from hb); subst this
            refine ⟨?_, rfl, rfl, (by intro cs e; cases e), (by intro e; cases e)⟩
            rw [e0, Op.equalIn]; simp [hund]
          | oth v =>
            obtain ⟨rfl, _⟩ := vr_oth vrx
            have hy : nilAt (.func p q s) vx = true := hy
            cases vx with
            | nilFunc =>
              have := pb_inj (show pb true = _ from hb); subst this
              refine ⟨?_, rfl, rfl, (by intro cs e; cases e), (by intro e; cases e)⟩
              rw [e0, Op.equalIn]; simp [hund]
            | _ => cases hy
          | _ => cases hy
        | _ => cases hx
      | _ => cases hx
    | _ => cases hx
  obtain ⟨k1, k2, k3, k4, k5⟩ := key
  refine ⟨?_, ?_, fun op xo yo => run_eqGuard_of (.inr k5) (.inr k4) op xo yo⟩
  · rw [k2, Sem.run_bind, k1]; rfl
  · rw [k3, Sem.run_bind, k1]; rfl
theorem eqC_val {x y : AV} {vx vy : Value} {b : Bool} (h : eqC E t x y pb = pb b) (vrx : VR ρ x vx) (vry : VR ρ y vy) : EqFact P w t vx vy b := by
  obtain ⟨d, hd, h⟩ := orec_get (show eqC E t x y pb = some (VM.mk (.bool b) ⟨.e, 0, 0⟩) from h)
  have hu := ty_ok hE hd
  have hdef : br (isNilAt d x) (br (someAt d y) (isNil y pb) none) (br (isNilAt d y) (br (someAt d x) (isNil x pb) none) none) = some (VM.mk (.bool b) ⟨.e, 0, 0⟩) → EqFact P w t vx vy b := by
    intro h
    rcases br_some h with ⟨h1, h⟩ | ⟨_, h⟩
    · obtain ⟨h2, h⟩ := br_none h
      exact eqNil1 w hu h1 h2 h vrx vry
    · obtain ⟨h1, h⟩ := br_none h
      obtain ⟨h2, h⟩ := br_none h
      exact eqNil2 w hu h1 h2 h vrx vry
  cases d with
  | bool =>
    obtain ⟨p, rfl, hh⟩ := avBool_some (show avBool x (fun a => avBool y fun b => pb (br a b (notB b))) = _ from h)
    obtain ⟨q, rfl, h⟩ := avBool_some hh
    have := vr_bool vrx; subst this
    have := vr_bool vry; subst this
    have := pb_inj h
    have r := run_equal_bool (P := P) w t p q hu
    have e : (p == q) = b := by rw [← this]; cases p <;> cases q <;> rfl
    rw [e] at r
    refine ⟨?_, ?_, fun op xo yo => run_eqGuard_of (.inl (by intro e; cases e)) (.inl (by intro cs e; cases e)) op xo yo⟩
    · simp [binOp, r]
    · simp [binOp, r]
  | array n el =>
    obtain ⟨hpl, h⟩ := br_none (show br (E.plain t) _ none = _ from h)
    obtain ⟨e, he, h⟩ := orec_get h
    cases e with
    | int kd =>
      obtain ⟨s, hs, h⟩ := orec_get (show orec none (fun s => br (Nat.beq s 1) (avAgg x fun xs => avAgg y fun ys => eqInts n xs ys pb) none) (sz E el) = _ from h)
      obtain ⟨h1, h⟩ := br_none h
      have := nbt h1; subst this
      obtain ⟨xs, rfl, hh⟩ := avAgg_some h
      obtain ⟨ys, rfl, h⟩ := avAgg_some hh
      obtain ⟨lx, hlx, _, rfl⟩ := vr_agg vrx
      obtain ⟨ly, hly, _, rfl⟩ := vr_agg vry
      have r := eqInts_val hE w (ρ := ρ) he 9998 (lx := lx) (ly := ly) n 0 xs ys b h (by simpa using hlx) (by simpa using hly)
      obtain ⟨i, hi, _⟩ := orec_get (show orec none (fun (i : TypeInfo) => some i.size) (E.types.get el) = some 1 from hs)
      have hi' := hE.types el i hi
      have hsz : P.cellsOf el = 1 := by
        have a1 := run_sizeOf (P := P) w hi'
        have a2 := sz_ok hE w hs
        rw [a1] at a2; injection a2
      have q := run_equalIn_array (P := P) w 9999 ⟨lx⟩ ⟨ly⟩ hu hi'
      rw [hsz, List.range_eq_range'] at q
      rw [show (9999 : Nat) = 9998 + 1 from rfl, r] at q
      refine ⟨?_, ?_, fun op xo yo => run_eqGuard_agg (P := P) w op t xo yo ⟨lx⟩ ⟨ly⟩ (hE.plain t hpl)⟩
      · rw [run_eql_struct, q]; rfl
      · rw [run_neq_struct, q]; rfl
    | _ => exact nomatch (show (none : R) = _ from h)
  | _ => exact hdef h
end
end Go.Rx
