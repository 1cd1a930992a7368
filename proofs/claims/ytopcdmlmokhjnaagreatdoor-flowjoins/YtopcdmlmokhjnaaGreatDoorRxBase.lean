/-
  Small lemmas about the executor's eliminators, tries and temporaries.
-/
import Derived.Test.YtopcdmlmokhjnaaGreatDoorRxDef
namespace Go.Rx

section
variable {α β : Type}
@[simp] theorem br_true (t e : α) : br true t e = t := rfl
@[simp] theorem br_false (t e : α) : br false t e = e := rfl
theorem br_some {b : Bool} {t e : Option α} {r : α} (h : br b t e = some r) : (b = true ∧ t = some r) ∨ (b = false ∧ e = some r) := by
  cases b
  · exact .inr ⟨rfl, h⟩
  · exact .inl ⟨rfl, h⟩
theorem br_none {b : Bool} {t : Option α} {r : α} (h : br b t none = some r) : b = true ∧ t = some r := by
  cases b
  · exact nomatch (show (none : Option α) = some r from h)
  · exact ⟨rfl, h⟩
theorem br_none' {b : Bool} {t : Option α} {r : α} (h : br b none t = some r) : b = false ∧ t = some r := by
  cases b
  · exact ⟨rfl, h⟩
  · exact nomatch (show (none : Option α) = some r from h)
@[simp] theorem orec_none (d : β) (f : α → β) : orec d f none = d := rfl
@[simp] theorem orec_some (d : β) (f : α → β) (x : α) : orec d f (some x) = f x := rfl
theorem orec_get {o : Option α} {f : α → Option β} {r : β} (h : orec none f o = some r) : ∃ x, o = some x ∧ f x = some r := by
  cases o
  · exact nomatch (show (none : Option β) = some r from h)
  · exact ⟨_, rfl, h⟩
@[simp] theorem lrec_nil (z : β) (f : α → List α → β → β) : lrec z f [] = z := rfl
@[simp] theorem lrec_cons (z : β) (f : α → List α → β → β) (h : α) (t : List α) : lrec z f (h :: t) = f h t (lrec z f t) := rfl
@[simp] theorem lcs_nil (z : β) (f : α → List α → β) : lcs z f [] = z := rfl
@[simp] theorem lcs_cons (z : β) (f : α → List α → β) (h : α) (t : List α) : lcs z f (h :: t) = f h t := rfl
@[simp] theorem nrec_zero (z : β) (f : Nat → β → β) : nrec z f 0 = z := rfl
@[simp] theorem nrec_succ (z : β) (f : Nat → β → β) (n : Nat) : nrec z f (n + 1) = f n (nrec z f n) := rfl
@[simp] theorem notB_eq (b : Bool) : notB b = !b := by cases b <;> rfl
end

/-! ### Values -/
theorem avInt_some {v : AV} {r : VM} {k : IntKind → Int → R} (h : avInt v k = some r) : ∃ j n, v = .int j n ∧ k j n = some r := by
  cases v <;> first | exact ⟨_, _, rfl, h⟩ | exact nomatch (show (none : R) = some r from h)
theorem avBool_some {v : AV} {r : VM} {k : Bool → R} (h : avBool v k = some r) : ∃ b, v = .bool b ∧ k b = some r := by
  cases v <;> first | exact ⟨_, rfl, h⟩ | exact nomatch (show (none : R) = some r from h)
theorem avPtr_some {v : AV} {r : VM} {k : Nat → Nat → R} (h : avPtr v k = some r) : ∃ b o, v = .ptr b o ∧ k b o = some r := by
  cases v <;> first | exact ⟨_, _, rfl, h⟩ | exact nomatch (show (none : R) = some r from h)
theorem avSlc_some {v : AV} {r : VM} {k : Nat → Nat → Nat → Nat → R} {z : Nat → Nat → R} (h : avSlc v k z = some r) :
    (∃ b o l c, v = .slc b o l c ∧ k b o l c = some r) ∨ (∃ l c, v = .oth (.slice none l c) ∧ z l c = some r) := by
  cases v with
  | slc b o l c => exact .inl ⟨_, _, _, _, rfl, h⟩
  | oth v =>
    cases v with
    | slice a l c =>
      cases a with
      | none => exact .inr ⟨_, _, rfl, h⟩
      | some a => exact nomatch (show (none : R) = some r from h)
    | _ => exact nomatch (show (none : R) = some r from h)
  | _ => exact nomatch (show (none : R) = some r from h)
theorem avAgg_some {v : AV} {r : VM} {k : AV → R} (h : avAgg v k = some r) : ∃ cs, v = .agg cs ∧ k cs = some r := by
  cases v <;> first | exact ⟨_, rfl, h⟩ | exact nomatch (show (none : R) = some r from h)
theorem avTup_some {v : AV} {r : VM} {k : AV → R} (h : avTup v k = some r) : ∃ cs, v = .tup cs ∧ k cs = some r := by
  cases v <;> first | exact ⟨_, rfl, h⟩ | exact nomatch (show (none : R) = some r from h)
theorem avStr_some {v : AV} {r : VM} {k : List UInt8 → R} (h : avStr v k = some r) : ∃ s, v = .str s ∧ k s = some r := by
  cases v <;> first | exact ⟨_, rfl, h⟩ | exact nomatch (show (none : R) = some r from h)
theorem avStrSlc_some {v : AV} {r : VM} {s : List UInt8 → R} {k : Nat → Nat → Nat → Nat → R} {z : Nat → Nat → R} (h : avStrSlc v s k z = some r) :
    (∃ x, v = .str x ∧ s x = some r) ∨ (∃ b o l c, v = .slc b o l c ∧ k b o l c = some r) ∨ (∃ l c, v = .oth (.slice none l c) ∧ z l c = some r) := by
  cases v with
  | str x => exact .inl ⟨_, rfl, h⟩
  | slc b o l c => exact .inr (.inl ⟨_, _, _, _, rfl, h⟩)
  | oth v =>
    cases v with
    | slice a l c =>
      cases a with
      | none => exact .inr (.inr ⟨_, _, rfl, h⟩)
      | some a => exact nomatch (show (none : R) = some r from h)
    | _ => exact nomatch (show (none : R) = some r from h)
  | _ => exact nomatch (show (none : R) = some r from h)
theorem avFn_some {v : AV} {r : VM} {k : FuncId → AV → R} {y : Nat → R} (h : avFn v k y = some r) : (∃ f c, v = .fn f c ∧ k f c = some r) ∨ (∃ l, v = .yld l ∧ y l = some r) := by
  cases v <;> first | exact .inl ⟨_, _, rfl, h⟩ | exact .inr ⟨_, rfl, h⟩ | exact nomatch (show (none : R) = some r from h)
theorem avMap_some {v : AV} {r : VM} {k : Nat → R} {z : R} (h : avMap v k z = some r) : (∃ m, v = .map m ∧ k m = some r) ∨ (v = .oth (.map none) ∧ z = some r) := by
  cases v with
  | map m => exact .inl ⟨_, rfl, h⟩
  | oth v =>
    cases v with
    | map a =>
      cases a with
      | none => exact .inr ⟨rfl, h⟩
      | some a => exact nomatch (show (none : R) = some r from h)
    | _ => exact nomatch (show (none : R) = some r from h)
  | _ => exact nomatch (show (none : R) = some r from h)
theorem avCons_some {v : AV} {r : VM} {k : AV → AV → R} (h : avCons v k = some r) : ∃ x t, v = .cons x t ∧ k x t = some r := by
  cases v <;> first | exact ⟨_, _, rfl, h⟩ | exact nomatch (show (none : R) = some r from h)
theorem avList_some {v : AV} {r : VM} {z : R} {k : AV → AV → R} (h : avList v z k = some r) : (v = .nl ∧ z = some r) ∨ (∃ x t, v = .cons x t ∧ k x t = some r) := by
  cases v <;> first | exact .inl ⟨rfl, h⟩ | exact .inr ⟨_, _, rfl, h⟩ | exact nomatch (show (none : R) = some r from h)
theorem isNl_eq {v : AV} : isNl v = true ↔ v = .nl := by
  cases v <;> simp [isNl]
theorem nbf {n m : Nat} (h : n ≠ m) : Nat.beq n m = false := by
  cases hb : Nat.beq n m with
  | false => rfl
  | true => exact absurd (Nat.eq_of_beq_eq_true hb) h
theorem nbt {n m : Nat} (h : Nat.beq n m = true) : n = m := Nat.eq_of_beq_eq_true h
theorem nblt {n m : Nat} (h : Nat.blt n m = true) : n < m := Nat.le_of_ble_eq_true h
theorem nble {n m : Nat} (h : Nat.ble n m = true) : n ≤ m := Nat.le_of_ble_eq_true h
theorem nblf {n m : Nat} (h : Nat.blt n m = false) : m ≤ n := by
  rcases Nat.lt_or_ge n m with hlt | hge
  · have : Nat.ble (n + 1) m = true := Nat.ble_eq_true_of_le hlt
    exact absurd (show Nat.blt n m = true from this) (by rw [h]; decide)
  · exact hge
theorem nbef {n m : Nat} (h : Nat.ble n m = false) : m < n := by
  rcases Nat.lt_or_ge m n with hlt | hge
  · exact hlt
  · exact absurd (Nat.ble_eq_true_of_le hge) (by rw [h]; decide)
theorem natBelow_some {v : AV} {lt : Nat} {r : VM} {k : Nat → R} (h : natBelow v lt k = some r) : ∃ j n, v = .int j (Int.ofNat n) ∧ n < lt ∧ k n = some r := by
  obtain ⟨j, n, rfl, h⟩ := avInt_some h
  cases n with
  | ofNat n =>
    obtain ⟨hb, hk⟩ := br_none h
    exact ⟨j, n, rfl, nblt hb, hk⟩
  | negSucc n => exact nomatch (show (none : R) = some r from h)

/-! ### Lists -/
section
variable {α β : Type}
@[simp] theorem mapL_eq (f : α → β) (l : List α) : mapL f l = l.map f := by
  induction l with
  | nil => rfl
  | cons h t ih => simp only [mapL, lrec_cons, List.map_cons] at *; rw [ih]
@[simp] theorem appL_eq (l r : List α) : appL l r = l ++ r := by
  induction l with
  | nil => rfl
  | cons h t ih => simp only [appL, lrec_cons, List.cons_append] at *; rw [ih]
@[simp] theorem dropL_eq (n : Nat) (l : List α) : dropL n l = l.drop n := by
  induction n generalizing l with
  | zero => rfl
  | succ n ih =>
    cases l with
    | nil => rfl
    | cons h t => exact ih t
@[simp] theorem nthL_eq (l : List α) (n : Nat) : nthL l n = l[n]? := by
  unfold nthL
  rw [dropL_eq]
  cases hd : l.drop n with
  | nil => simp at hd; simp [hd]
  | cons h t =>
    have : l[n]? = (l.drop n)[0]? := by simp
    rw [this, hd]; rfl
@[simp] theorem takeL_eq (n : Nat) (l : List α) : takeL n l = l.take n := by
  induction n generalizing l with
  | zero => rfl
  | succ n ih =>
    cases l with
    | nil => rfl
    | cons h t => exact congrArg (h :: ·) (ih t)
@[simp] theorem lenL_eq (l : List α) : lenL l = l.length := by
  induction l with
  | nil => rfl
  | cons h t ih => exact congrArg Nat.succ ih
theorem allL_iff (p : α → Bool) (l : List α) : allL p l = true ↔ ∀ x ∈ l, p x = true := by
  induction l with
  | nil => simp [allL]
  | cons h t ih =>
    show br (p h) (allL p t) false = true ↔ _
    cases hp : p h with
    | true => simp [ih, hp]
    | false => simp [hp]
theorem anyL_iff (p : α → Bool) (l : List α) : anyL p l = true ↔ ∃ x ∈ l, p x = true := by
  induction l with
  | nil => simp [anyL]
  | cons h t ih =>
    show br (p h) true (anyL p t) = true ↔ _
    cases hp : p h with
    | true => simp [hp]
    | false => simp [hp, ih]
end
theorem beqBytes_eq (a b : List UInt8) : beqBytes a b = (a == b) := by
  induction a generalizing b with
  | nil => cases b <;> rfl
  | cons x t ih =>
    cases b with
    | nil => rfl
    | cons y u =>
      show br (Nat.beq x.toNat y.toNat) (beqBytes t u) false = _
      rw [ih, List.cons_beq_cons]
      by_cases h : x = y
      · subst h; simp
      · have : Nat.beq x.toNat y.toNat = false := nbf fun e => h (UInt8.toNat_inj.1 e)
        rw [this]; simp [h]

/-! ### Tries -/
namespace Tr
variable {α : Type}
theorem get_e (k : Nat) : (Tr.e : Tr α).get k = none := rfl
theorem get_n (l : Tr α) (v : Option α) (r : Tr α) (k : Nat) : (Tr.n l v r).get k = if k = 0 then v else if k % 2 = 0 then l.get (k / 2 - 1) else r.get (k / 2) := by
  show br (Nat.beq k 0) v (br (Nat.beq (Nat.land k 1) 0) (l.get (Nat.sub (Nat.shiftRight k 1) 1)) (r.get (Nat.shiftRight k 1))) = _
  have h1 : Nat.land k 1 = k % 2 := Nat.and_one_is_mod k
  have h2 : Nat.shiftRight k 1 = k / 2 := by show k >>> 1 = k / 2; rw [Nat.shiftRight_eq_div_pow]
  rw [h1, h2]
  by_cases h0 : k = 0
  · subst h0; rfl
  · have : Nat.beq k 0 = false := nbf h0
    rw [this, if_neg h0, br_false]
    by_cases h : k % 2 = 0
    · rw [h, if_pos rfl]; rfl
    · have : Nat.beq (k % 2) 0 = false := nbf h
      rw [this, if_neg h, br_false]
theorem setF_e (x : Option α) (f k : Nat) : setF x (f + 1) .e k = if k = 0 then Tr.n .e x .e else if k % 2 = 0 then Tr.n (setF x f .e (k / 2 - 1)) none .e else Tr.n .e none (setF x f .e (k / 2)) := by
  show br (Nat.beq k 0) (Tr.n .e x .e) (br (Nat.beq (Nat.land k 1) 0) (Tr.n (setF x f .e (Nat.sub (Nat.shiftRight k 1) 1)) none .e) (Tr.n .e none (setF x f .e (Nat.shiftRight k 1)))) = _
  have h1 : Nat.land k 1 = k % 2 := Nat.and_one_is_mod k
  have h2 : Nat.shiftRight k 1 = k / 2 := by show k >>> 1 = k / 2; rw [Nat.shiftRight_eq_div_pow]
  rw [h1, h2]
  by_cases h0 : k = 0
  · subst h0; rfl
  · have : Nat.beq k 0 = false := nbf h0
    rw [this, if_neg h0, br_false]
    by_cases h : k % 2 = 0
    · rw [h, if_pos rfl]; rfl
    · have : Nat.beq (k % 2) 0 = false := nbf h
      rw [this, if_neg h, br_false]
theorem setF_n (x : Option α) (f k : Nat) (l : Tr α) (v : Option α) (r : Tr α) : setF x (f + 1) (.n l v r) k = if k = 0 then Tr.n l x r else if k % 2 = 0 then Tr.n (setF x f l (k / 2 - 1)) v r else Tr.n l v (setF x f r (k / 2)) := by
  show br (Nat.beq k 0) (Tr.n l x r) (br (Nat.beq (Nat.land k 1) 0) (Tr.n (setF x f l (Nat.sub (Nat.shiftRight k 1) 1)) v r) (Tr.n l v (setF x f r (Nat.shiftRight k 1)))) = _
  have h1 : Nat.land k 1 = k % 2 := Nat.and_one_is_mod k
  have h2 : Nat.shiftRight k 1 = k / 2 := by show k >>> 1 = k / 2; rw [Nat.shiftRight_eq_div_pow]
  rw [h1, h2]
  by_cases h0 : k = 0
  · subst h0; rfl
  · have : Nat.beq k 0 = false := nbf h0
    rw [this, if_neg h0, br_false]
    by_cases h : k % 2 = 0
    · rw [h, if_pos rfl]; rfl
    · have : Nat.beq (k % 2) 0 = false := nbf h
      rw [this, if_neg h, br_false]
theorem get_setF (x : Option α) (f : Nat) (t : Tr α) (k j : Nat) (hk : k < f) : (setF x f t k).get j = if j = k then x else t.get j := by
  induction f generalizing t k j with
  | zero => omega
  | succ f ih =>
    cases t with
    | e =>
      rw [setF_e]
      by_cases h0 : k = 0
      · subst h0
        rw [if_pos rfl, get_n]
        by_cases hj : j = 0
        · simp [hj]
        · simp [hj, get_e]
      · rw [if_neg h0]
        by_cases h : k % 2 = 0
        · rw [if_pos h, get_n]
          by_cases hj : j = 0
          · subst hj; rw [if_pos rfl, if_neg (by omega), get_e]
          · rw [if_neg hj]
            by_cases hj2 : j % 2 = 0
            · rw [if_pos hj2, ih _ _ _ (by omega), get_e, get_e]
              by_cases he : j = k
              · subst he; simp
              · rw [if_neg he, if_neg (by omega)]
            · rw [if_neg hj2, get_e, get_e, if_neg (by intro e; subst e; exact hj2 h)]
        · rw [if_neg h, get_n]
          by_cases hj : j = 0
          · subst hj; rw [if_pos rfl, if_neg (by omega), get_e]
          · rw [if_neg hj]
            by_cases hj2 : j % 2 = 0
            · rw [if_pos hj2, get_e, get_e, if_neg (by intro e; subst e; exact h hj2)]
            · rw [if_neg hj2, ih _ _ _ (by omega), get_e, get_e]
              by_cases he : j = k
              · subst he; simp
              · rw [if_neg he, if_neg (by omega)]
    | n l v r =>
      rw [setF_n]
      by_cases h0 : k = 0
      · subst h0
        rw [if_pos rfl, get_n, get_n]
        by_cases hj : j = 0
        · simp [hj]
        · simp [hj]
      · rw [if_neg h0]
        by_cases h : k % 2 = 0
        · rw [if_pos h, get_n, get_n]
          by_cases hj : j = 0
          · subst hj; rw [if_pos rfl, if_neg (by omega), if_pos rfl]
          · rw [if_neg hj, if_neg hj]
            by_cases hj2 : j % 2 = 0
            · rw [if_pos hj2, if_pos hj2, ih _ _ _ (by omega)]
              by_cases he : j = k
              · subst he; simp
              · rw [if_neg he, if_neg (by omega)]
            · rw [if_neg hj2, if_neg hj2, if_neg (by intro e; subst e; exact hj2 h)]
        · rw [if_neg h, get_n, get_n]
          by_cases hj : j = 0
          · subst hj; rw [if_pos rfl, if_neg (by omega), if_pos rfl]
          · rw [if_neg hj, if_neg hj]
            by_cases hj2 : j % 2 = 0
            · rw [if_pos hj2, if_pos hj2, if_neg (by intro e; subst e; exact h hj2)]
            · rw [if_neg hj2, if_neg hj2, ih _ _ _ (by omega)]
              by_cases he : j = k
              · subst he; simp
              · rw [if_neg he, if_neg (by omega)]
theorem get_set (t : Tr α) (x : Option α) (k j : Nat) : (t.set x k).get j = if j = k then x else t.get j := get_setF x (k + 1) t k j (by omega)
@[simp] theorem get_set_same (t : Tr α) (x : Option α) (k : Nat) : (t.set x k).get k = x := by rw [get_set, if_pos rfl]
theorem get_set_ne (t : Tr α) (x : Option α) {k j : Nat} (h : j ≠ k) : (t.set x k).get j = t.get j := by rw [get_set, if_neg h]

theorem odds_nil : odds ([] : List α) = ([], []) := rfl
theorem odds_cons (h : α) (t : List α) : odds (h :: t) = (h :: (odds t).2, (odds t).1) := rfl
theorem odds_get (l : List α) : ∀ i, (odds l).1[i]? = l[2 * i]? ∧ (odds l).2[i]? = l[2 * i + 1]? := by
  induction l with
  | nil => intro i; simp [odds_nil]
  | cons h t ih =>
    intro i
    rw [odds_cons]
    refine ⟨?_, ?_⟩
    · cases i with
      | zero => simp
      | succ i =>
        have := (ih i).2
        simp only [List.getElem?_cons_succ]
        rw [this]
        have : 2 * (i + 1) = (2 * i + 1) + 1 := by omega
        rw [this, List.getElem?_cons_succ]
    · have := (ih i).1
      simp only
      rw [this, List.getElem?_cons_succ]
theorem get_ofList (d : Nat) (l : List α) : ∀ k x, (ofList d l).get k = some x → l[k]? = some x := by
  induction d generalizing l with
  | zero => intro k x h; exact nomatch (show (none : Option α) = some x from h)
  | succ d ih =>
    intro k x h
    cases l with
    | nil => exact nomatch (show (none : Option α) = some x from h)
    | cons a t =>
      have h' : (Tr.n (ofList d (odds t).2) (some a) (ofList d (odds t).1)).get k = some x := h
      rw [get_n] at h'
      by_cases h0 : k = 0
      · subst h0; simpa using h'
      · rw [if_neg h0] at h'
        by_cases h2 : k % 2 = 0
        · rw [if_pos h2] at h'
          have := ih _ _ _ h'
          rw [(odds_get t _).2] at this
          obtain ⟨m, rfl⟩ : ∃ m, k = m + 1 := ⟨k - 1, by omega⟩
          rw [List.getElem?_cons_succ]
          rw [← this]; congr 1; omega
        · rw [if_neg h2] at h'
          have := ih _ _ _ h'
          rw [(odds_get t _).1] at this
          obtain ⟨m, rfl⟩ : ∃ m, k = m + 1 := ⟨k - 1, by omega⟩
          rw [List.getElem?_cons_succ]
          rw [← this]; congr 1; omega
end Tr
end Go.Rx
