/-
  Regions that draw their order: what their text says.
-/
import Derived.Test.YtopcdmlmokhjnaaGreatDoorRxDraw
set_option linter.unusedVariables false
set_option linter.unusedSimpArgs false
set_option linter.unusedSectionVars false
namespace Go.Rx

section pairs
variable {bef : List Nat}
theorem pairsFrom_mem {i : Nat} {a b : Oper} : ∀ (rest : List Oper) (j0 k : Nat), rest[k]? = some b → loose bef i (j0 + k) = true → (i, j0 + k, a, b) ∈ pairsFrom bef i a rest j0 := by
  intro rest
  induction rest with
  | nil => intro j0 k h; cases h
  | cons x rest ih =>
    intro j0 k h hl
    have e : pairsFrom bef i a (x :: rest) j0 = br (loose bef i j0) ((i, j0, a, x) :: pairsFrom bef i a rest (Nat.succ j0)) (pairsFrom bef i a rest (Nat.succ j0)) := rfl
    rw [e]
    cases k with
    | zero =>
      have h : x = b := by simpa using h
      subst h
      have hl : loose bef i j0 = true := hl
      rw [hl]
      exact List.mem_cons_self ..
    | succ k =>
      have h2 : j0 + (k + 1) = Nat.succ j0 + k := by simp; omega
      rw [h2] at hl ⊢
      have := ih (Nat.succ j0) k (by simpa using h) hl
      cases loose bef i j0 with
      | true => exact List.mem_cons_of_mem _ this
      | false => exact this
theorem pairs_mem {a b : Oper} : ∀ (ops : List Oper) (i0 p q : Nat), ops[p]? = some a → ops[q]? = some b → p < q → loose bef (i0 + p) (i0 + q) = true → (i0 + p, i0 + q, a, b) ∈ pairs bef ops i0 := by
  intro ops
  induction ops with
  | nil => intro i0 p q h; cases h
  | cons x ops ih =>
    intro i0 p q hp hq hlt hl
    have e : pairs bef (x :: ops) i0 = appL (pairsFrom bef i0 x ops (Nat.succ i0)) (pairs bef ops (Nat.succ i0)) := rfl
    rw [e, appL_eq, List.mem_append]
    cases q with
    | zero => omega
    | succ q =>
      have h2 : i0 + (q + 1) = Nat.succ i0 + q := by simp; omega
      cases p with
      | zero =>
        have hp : x = a := by simpa using hp
        subst hp
        rw [h2] at hl ⊢
        exact .inl (pairsFrom_mem ops (Nat.succ i0) q (by simpa using hq) hl)
      | succ p =>
        have h1 : i0 + (p + 1) = Nat.succ i0 + p := by simp; omega
        rw [h1, h2] at hl ⊢
        exact .inr (ih (Nat.succ i0) p q (by simpa using hp) (by simpa using hq) (by omega) hl)
end pairs
theorem loose_apart {ops : Array Oper} (h : staticOk ops = true) {i j : Nat} {a b : Oper} (hi : ops[i]? = some a) (hj : ops[j]? = some b) (hlt : i < j) (hl : loose (Region.before ops).toList i j = true) : apartT ops.toList a b = true := by
  unfold staticOk at h
  cases h1 : allL (fun (p : Nat × Nat × Oper × Oper) => apartT ops.toList p.2.2.1 p.2.2.2) (loosePairs ops) with
  | false => rw [h1] at h; cases h
  | true =>
    have := pairs_mem (bef := (Region.before ops).toList) ops.toList 0 i j (by simpa using hi) (by simpa using hj) hlt (by simpa using hl)
    exact (allL_iff _ _).1 h1 _ this
theorem loud_mem {ops : Array Oper} {i j : Nat} {a b : Oper} (hi : ops[i]? = some a) (hj : ops[j]? = some b) (hlt : i < j) (hl : loose (Region.before ops).toList i j = true) (ha : quiet a.op = false) (hb : quiet b.op = false) : (i, j) ∈ loudPairs ops := by
  have hm := pairs_mem (bef := (Region.before ops).toList) ops.toList 0 i j (by simpa using hi) (by simpa using hj) hlt (by simpa using hl)
  have e : loudPairs ops = lrec (β := List (Nat × Nat)) [] (fun (p : Nat × Nat × Oper × Oper) _ ih => br (quiet p.2.2.1.op) ih (br (quiet p.2.2.2.op) ih ((p.1, p.2.1) :: ih))) (pairs (Region.before ops).toList ops.toList 0) := rfl
  rw [e]
  generalize pairs (Region.before ops).toList ops.toList 0 = l at hm
  induction l with
  | nil => cases hm
  | cons p l ih =>
    show (i, j) ∈ br (quiet p.2.2.1.op) _ (br (quiet p.2.2.2.op) _ ((p.1, p.2.1) :: _))
    rcases List.mem_cons.1 hm with h | h
    · subst h
      simp only [Nat.zero_add]
      rw [ha, hb]
      exact List.mem_cons_self ..
    · have := ih h
      cases quiet p.2.2.1.op with
      | true => exact this
      | false =>
        cases quiet p.2.2.2.op with
        | true => exact this
        | false => exact List.mem_cons_of_mem _ this
theorem after_lt {ops : Array Oper} (h : staticOk ops = true) {i : Nat} {o : Oper} (hi : ops[i]? = some o) {e : Edge} (he : e ∈ o.after) (hb : Region.binds .any e = true) : e.on < i := by
  unfold staticOk at h
  have h2 : aftersOk ops.toList 0 = true := by
    cases h1 : allL (fun (p : Nat × Nat × Oper × Oper) => apartT ops.toList p.2.2.1 p.2.2.2) (loosePairs ops) with
    | false => rw [h1] at h; cases h
    | true =>
      rw [h1] at h
      cases h2 : aftersOk ops.toList 0 with
      | true => rfl
      | false => rw [h2] at h; cases h
  have key : ∀ (l : List Oper) (i0 k : Nat), aftersOk l i0 = true → l[k]? = some o → e.on < i0 + k := by
    intro l
    induction l with
    | nil => intro i0 k _ h; cases h
    | cons x l ih =>
      intro i0 k h hk
      have h : br (afterOk x i0) (aftersOk l (Nat.succ i0)) false = true := h
      cases h3 : afterOk x i0 with
      | false => rw [h3] at h; cases h
      | true =>
        rw [h3] at h
        cases k with
        | zero =>
          have hk : x = o := by simpa using hk
          subst hk
          have := (allL_iff _ _).1 h3 e (by simpa using he)
          rw [hb] at this
          exact nblt this
        | succ k =>
          have := ih (Nat.succ i0) k h (by simpa using hk)
          have : e.on < Nat.succ i0 + k := this
          simp at this; omega
  have := key ops.toList 0 i h2 (by simpa using hi)
  simpa using this

/-! ### What comes before what -/
theorem loose_false {bef : List Nat} {i j : Nat} (h : loose bef i j = false) : ∃ b, bef[j]? = some b ∧ b.testBit i = true := by
  unfold loose at h
  rw [nthL_eq] at h
  cases hb : bef[j]? with
  | none => rw [hb] at h; cases h
  | some b =>
    rw [hb] at h
    refine ⟨b, rfl, ?_⟩
    have h : Nat.beq (Nat.land (Nat.shiftRight b i) 1) 0 = false := h
    have h1 : (b >>> i) &&& 1 ≠ 0 := by
      intro e
      have e : Nat.land (Nat.shiftRight b i) 1 = 0 := e
      rw [e] at h; cases h
    unfold Nat.testBit
    rw [Nat.and_comm] at h1
    simpa using h1
/-- one operation's mask -/
def maskOf (acc : Array Nat) (o : Oper) : Nat := o.after.foldl (fun s e => if Region.binds .any e then s ||| 2 ^ e.on ||| acc.getD e.on 0 else s) 0
theorem maskOf_bit {acc : Array Nat} {o : Oper} {k : Nat} (h : (maskOf acc o).testBit k = true) : ∃ e ∈ o.after, Region.binds .any e = true ∧ (k = e.on ∨ (acc.getD e.on 0).testBit k = true) := by
  have key : ∀ (l : List Edge) (s : Nat), (l.foldl (fun s e => if Region.binds .any e then s ||| 2 ^ e.on ||| acc.getD e.on 0 else s) s).testBit k = true → s.testBit k = true ∨ ∃ e ∈ l, Region.binds .any e = true ∧ (k = e.on ∨ (acc.getD e.on 0).testBit k = true) := by
    intro l
    induction l with
    | nil => intro s h; exact .inl h
    | cons e l ih =>
      intro s h
      rw [List.foldl_cons] at h
      rcases ih _ h with h1 | ⟨e', he', h1⟩
      · by_cases hb : Region.binds .any e = true
        · rw [if_pos hb, Nat.testBit_or, Nat.testBit_or] at h1
          rcases Bool.or_eq_true_iff.1 h1 with h1 | h1
          · rcases Bool.or_eq_true_iff.1 h1 with h1 | h1
            · exact .inl h1
            · rw [Nat.testBit_two_pow] at h1
              exact .inr ⟨e, List.mem_cons_self .., hb, .inl (by simpa using (of_decide_eq_true h1).symm)⟩
          · exact .inr ⟨e, List.mem_cons_self .., hb, .inr h1⟩
        · rw [if_neg hb] at h1; exact .inl h1
      · exact .inr ⟨e', List.mem_cons_of_mem _ he', h1⟩
  unfold maskOf at h
  rw [← Array.foldl_toList] at h
  rcases key o.after.toList 0 h with h | ⟨e, he, h⟩
  · simp at h
  · exact ⟨e, by simpa using he, h⟩
theorem before_spec (ops : Array Oper) : (Region.before ops).size = ops.size ∧ ∀ i o, ops[i]? = some o → ∀ k, ((Region.before ops).getD i 0).testBit k = true → ∃ e ∈ o.after, Region.binds .any e = true ∧ (k = e.on ∨ ((Region.before ops).getD e.on 0).testBit k = true) := by
  have key : ∀ (l : List Oper) (acc : Array Nat), ∃ acc', l.foldl (fun acc o => acc.push (maskOf acc o)) acc = acc' ∧ acc'.size = acc.size + l.length ∧ (∀ i, i < acc.size → acc'.getD i 0 = acc.getD i 0) ∧
      ∀ i o, l[i]? = some o → ∀ k, (acc'.getD (acc.size + i) 0).testBit k = true → ∃ e ∈ o.after, Region.binds .any e = true ∧ (k = e.on ∨ (acc'.getD e.on 0).testBit k = true) := by
    intro l
    induction l with
    | nil => intro acc; exact ⟨acc, rfl, rfl, fun _ _ => rfl, fun i o h => by cases h⟩
    | cons x l ih =>
      intro acc
      obtain ⟨acc', h1, h2, h3, h4⟩ := ih (acc.push (maskOf acc x))
      have hsz : (acc.push (maskOf acc x)).size = acc.size + 1 := by simp
      refine ⟨acc', h1, by rw [h2, hsz]; simp; omega, fun i hi => ?_, fun i o hi k hk => ?_⟩
      · rw [h3 i (by rw [hsz]; omega)]
        simp [Array.getD, hi, Array.getElem_push, Nat.lt_succ_of_lt hi]
      · cases i with
        | zero =>
          have hi : x = o := by simpa using hi
          subst hi
          rw [Nat.add_zero, h3 acc.size (by rw [hsz]; omega)] at hk
          have e : (acc.push (maskOf acc x)).getD acc.size 0 = maskOf acc x := by simp [Array.getD]
          rw [e] at hk
          obtain ⟨ed, he, hb, hor⟩ := maskOf_bit hk
          refine ⟨ed, he, hb, ?_⟩
          rcases hor with h | h
          · exact .inl h
          · right
            by_cases hlt : ed.on < acc.size
            · rw [h3 ed.on (by rw [hsz]; omega)]
              have : (acc.push (maskOf acc x)).getD ed.on 0 = acc.getD ed.on 0 := by simp [Array.getD, hlt, Array.getElem_push, Nat.lt_succ_of_lt hlt]
              rw [this]; exact h
            · have : acc.getD ed.on 0 = 0 := by simp [Array.getD, hlt]
              rw [this] at h; simp at h
        | succ i =>
          rw [show acc.size + (i + 1) = (acc.push (maskOf acc x)).size + i by rw [hsz]; omega] at hk
          exact h4 i o (by simpa using hi) k hk
  obtain ⟨acc', h1, h2, _, h4⟩ := key ops.toList #[]
  have e : Region.before ops = acc' := by
    rw [← h1]
    unfold Region.before
    rw [← Array.foldl_toList]
    rfl
  rw [e]
  refine ⟨by rw [h2]; simp, fun i o hi k hk => ?_⟩
  exact h4 i o (by simpa using hi) k (by simpa using hk)
/-- a set of operations that holds what comes before -/
def Closed (ops : Array Oper) (S : Nat → Prop) : Prop := ∀ j, S j → ∀ k, ((Region.before ops).getD j 0).testBit k = true → S k
theorem closed_add {ops : Array Oper} {S : Nat → Prop} (h : Closed ops S) {i : Nat} {o : Oper} (hi : ops[i]? = some o) (hr : ∀ e ∈ o.after, Region.binds .any e = true → S e.on) :
    Closed ops (fun j => S j ∨ j = i) ∧ ∀ k, ((Region.before ops).getD i 0).testBit k = true → S k := by
  have key : ∀ k, ((Region.before ops).getD i 0).testBit k = true → S k := by
    intro k hk
    obtain ⟨e, he, hb, hor⟩ := (before_spec ops).2 i o hi k hk
    rcases hor with rfl | h'
    · exact hr e he hb
    · exact h e.on (hr e he hb) k h'
  refine ⟨fun j hj k hk => ?_, key⟩
  rcases hj with hj | rfl
  · exact .inl (h j hj k hk)
  · exact .inl (key k hk)
theorem loose_of {ops : Array Oper} {i j : Nat} (h : ((Region.before ops).getD j 0).testBit i ≠ true) : loose (Region.before ops).toList i j = true := by
  cases hl : loose (Region.before ops).toList i j with
  | true => rfl
  | false =>
    obtain ⟨b, hb, hbit⟩ := loose_false hl
    refine absurd ?_ h
    have hb : (Region.before ops)[j]? = some b := by simpa using hb
    rw [Array.getD_eq_getD_getElem?, hb]
    exact hbit
end Go.Rx
