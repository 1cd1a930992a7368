/-
  Facts: Join is the least that both are below; Below is an order.
-/
import Derived.Test.YtopcdmlmokhjnaaGreatDoorRunI
set_option linter.unusedVariables false
set_option linter.unusedSimpArgs false
namespace Go.Proofs
open Go Go.Rx
theorem bytes_eq (s t : List UInt8) : beqBytes s t = true ↔ s = t := by
  have e : beqBytes s t = decide (s = t) := by
    induction s generalizing t with
    | nil => cases t <;> rfl
    | cons x s ih =>
      cases t with
      | nil => rfl
      | cons y t =>
        show br (Nat.beq x.toNat y.toNat) (beqBytes s t) false = _
        rw [s_beq, ih]
        by_cases h : x = y
        · subst h
          rw [decide_eq_true rfl]
          show decide (s = t) = _
          by_cases h2 : s = t
          · rw [decide_eq_true h2, decide_eq_true (by rw [h2])]
          · rw [decide_eq_false h2, decide_eq_false (fun e : x :: s = x :: t => h2 (List.cons.inj e).2)]
        · have h1 : decide (x.toNat = y.toNat) = false := decide_eq_false fun e => h (UInt8.toNat_inj.1 e)
          have h2 : decide (x :: s = y :: t) = false := decide_eq_false fun e => h (List.cons.inj e).1
          rw [h1, h2]; rfl
  rw [e]; exact decide_eq_true_iff
inductive Ab where
  | bot
  | one (n : Bool) (s : List UInt8) (b : Nat)
  | top
noncomputable def abs (f : Fc) : Ab := if f.k = 0 then .bot else if f.k = 2 then .top else .one f.v.n f.v.s (canonF f.v.b)
theorem sameF_iff (a b : Nat) : sameF a b = true ↔ canonF a = canonF b := by unfold sameF; exact decide_eq_true_iff
theorem sameV_iff (v w : Vl) : sameV v w = true ↔ v.n = w.n ∧ v.s = w.s ∧ canonF v.b = canonF w.b := by
  unfold sameV
  rw [Bool.and_eq_true, Bool.and_eq_true, bytes_eq, sameF_iff, beq_iff_eq]
theorem right_kind {f : Fc} (h : rightF f = true) : f.k = 1 ∨ ((f.k = 0 ∨ f.k = 2) ∧ f.v.n = false ∧ f.v.s = [] ∧ canonF f.v.b = canonF 0) := by
  unfold rightF at h
  by_cases h1 : f.k = 1
  · exact .inl h1
  · rw [if_neg h1, Bool.and_eq_true, decide_eq_true_iff, sameV_iff] at h
    exact .inr ⟨by omega, h.2⟩
theorem same_iff {f g : Fc} (hf : rightF f = true) (hg : rightF g = true) : sameFc f g = true ↔ abs f = abs g := by
  unfold sameFc abs
  rw [hf, hg]
  simp only [Bool.true_and, Bool.and_eq_true, decide_eq_true_iff, sameV_iff]
  rcases right_kind hf with h1 | ⟨h1 | h1, h2, h3, h4⟩ <;> rcases right_kind hg with h1' | ⟨h1' | h1', h2', h3', h4'⟩ <;> simp [*]
theorem below_iff {f g : Fc} (hf : rightF f = true) (hg : rightF g = true) : belowF f g = true ↔ abs f = .bot ∨ abs g = .top ∨ abs f = abs g := by
  unfold belowF
  rw [hf, hg]
  simp only [Bool.true_and, Bool.or_eq_true, decide_eq_true_iff, same_iff hf hg]
  have hb : f.k = 0 ↔ abs f = .bot := by
    unfold abs
    by_cases h : f.k = 0
    · simp [h]
    · rw [if_neg h]; by_cases h2 : f.k = 2 <;> simp [h, h2]
  have ht : g.k = 2 ↔ abs g = .top := by
    unfold abs
    by_cases h : g.k = 0
    · simp [h]
    · rw [if_neg h]; by_cases h2 : g.k = 2 <;> simp [h2]
  rw [hb, ht]
theorem right0 : rightF ⟨0, v0⟩ = true := by
  unfold rightF
  rw [if_neg (by simp), Bool.and_eq_true, sameV_iff]
  exact ⟨rfl, rfl, rfl, rfl⟩
theorem right2 : rightF ⟨2, v0⟩ = true := by
  unfold rightF
  rw [if_neg (by simp), Bool.and_eq_true, sameV_iff]
  exact ⟨rfl, rfl, rfl, rfl⟩
open Classical in
noncomputable def jn (x y : Ab) : Ab := if x = .bot ∨ y = .top ∨ x = y then y else if y = .bot ∨ x = .top ∨ y = x then x else .top
theorem join_spec {f g : Fc} (hf : rightF f = true) (hg : rightF g = true) : rightF (joinF f g) = true ∧ abs (joinF f g) = jn (abs f) (abs g) := by
  unfold joinF jn
  rw [if_pos (by rw [hf, hg]; rfl)]
  by_cases h1 : belowF f g = true
  · rw [if_pos h1, if_pos ((below_iff hf hg).1 h1)]; exact ⟨hg, rfl⟩
  · rw [if_neg h1, if_neg (fun h => h1 ((below_iff hf hg).2 h))]
    by_cases h2 : belowF g f = true
    · rw [if_pos h2, if_pos ((below_iff hg hf).1 h2)]; exact ⟨hf, rfl⟩
    · rw [if_neg h2, if_neg (fun h => h2 ((below_iff hg hf).2 h))]; exact ⟨right2, rfl⟩
def le (x y : Ab) : Prop := x = .bot ∨ y = .top ∨ x = y
theorem right_eq (f : Fc) : rightG f = rightF f := by
  unfold rightG rightF
  by_cases h : f.k = 1
  · rw [if_pos h, if_pos h]
  · rw [if_neg h, if_neg h]
    congr 1
    rw [← Bool.decide_or, decide_eq_decide]; omega
theorem same_eq (f g : Fc) : sameG f g = sameFc f g := by
  unfold sameG sameFc
  rw [right_eq, right_eq]
  cases hf : rightF f
  · rfl
  · cases hg : rightF g
    · rfl
    · by_cases hk : f.k = g.k
      · by_cases h1 : f.k = 1
        · simp [h1]
        · have h2 : sameV f.v g.v = true := by
            rcases right_kind hf with h | ⟨_, n1, s1, c1⟩
            · exact absurd h h1
            · rcases right_kind hg with h | ⟨_, n2, s2, c2⟩
              · exact absurd (hk.trans h) h1
              · exact (sameV_iff _ _).2 ⟨n1.trans n2.symm, s1.trans s2.symm, c1.trans c2.symm⟩
          simp [h2, h1]
      · simp [hk]
theorem below_eq (f g : Fc) : belowG f g = belowF f g := by
  unfold belowG belowF
  rw [right_eq, right_eq, same_eq]
  cases rightF f <;> cases rightF g <;> cases decide (f.k = 0) <;> cases decide (g.k = 2) <;> cases sameFc f g <;> rfl
theorem eqG_self (f : Fc) : eqG f f = true := by
  unfold eqG
  rw [(sameV_iff _ _).2 ⟨rfl, rfl, rfl⟩, decide_eq_true rfl]; rfl
theorem eqG_of {f g : Fc} (hk : f.k = g.k) (hv : f.v.n = g.v.n ∧ f.v.s = g.v.s ∧ canonF f.v.b = canonF g.v.b) : eqG f g = true := by
  unfold eqG
  rw [(sameV_iff _ _).2 hv, decide_eq_true hk]; rfl
theorem same_parts {f g : Fc} (h : sameFc f g = true) : f.k = g.k ∧ f.v.n = g.v.n ∧ f.v.s = g.v.s ∧ canonF f.v.b = canonF g.v.b := by
  unfold sameFc at h
  rw [Bool.and_eq_true, Bool.and_eq_true, Bool.and_eq_true, decide_eq_true_iff] at h
  exact ⟨h.2.2.1, (sameV_iff _ _).1 h.2.2.2⟩
theorem join_eq (f g : Fc) : eqG (joinF f g) (joinG f g) = true := by
  unfold joinF joinG
  rw [right_eq, right_eq, same_eq]
  cases hr : (rightF f && rightF g)
  · exact eqG_self _
  · rw [if_pos rfl, if_pos rfl]
    rw [Bool.and_eq_true] at hr
    obtain ⟨hf, hg⟩ := hr
    have hb : ∀ p q : Fc, rightF p = true → rightF q = true → belowF p q = (decide (p.k = 0) || (decide (q.k = 2) || sameFc p q)) := fun p q hp hq => by
      unfold belowF; rw [hp, hq]; rfl
    rw [hb f g hf hg, hb g f hg hf]
    cases h0 : decide (f.k = 0)
    · rw [if_neg (by simp : ¬ (false = true))]
      rw [Bool.false_or]
      rw [decide_eq_false_iff_not] at h0
      cases h1 : decide (g.k = 0)
      · rw [if_neg (by simp : ¬ (false = true))]
        rw [decide_eq_false_iff_not] at h1
        cases h2 : sameFc f g
        · rw [if_neg (by simp : ¬ (false = true)), Bool.or_false]
          cases h3 : decide (g.k = 2)
          · rw [if_neg (by simp : ¬ (false = true)), Bool.false_or]
            cases h4 : decide (f.k = 2)
            · rw [Bool.false_or]
              cases h5 : sameFc g f
              · exact eqG_self _
              · exfalso
                obtain ⟨a, b, c, d⟩ := same_parts h5
                have : sameFc f g = true := by
                  unfold sameFc
                  rw [hf, hg, decide_eq_true a.symm, (sameV_iff _ _).2 ⟨b.symm, c.symm, d.symm⟩]; rfl
                rw [h2] at this; cases this
            · rw [Bool.true_or, if_pos rfl]
              rw [decide_eq_true_iff] at h4
              rcases right_kind hf with h | ⟨_, n1, s1, c1⟩
              · omega
              · exact eqG_of h4 ⟨n1, s1, c1⟩
          · rw [if_pos rfl]
            rw [decide_eq_true_iff] at h3
            rcases right_kind hg with h | ⟨_, n1, s1, c1⟩
            · omega
            · exact eqG_of h3 ⟨n1, s1, c1⟩
        · rw [if_pos rfl, Bool.or_true, if_pos rfl]
          obtain ⟨a, b, c, d⟩ := same_parts h2
          exact eqG_of a.symm ⟨b.symm, c.symm, d.symm⟩
      · rw [if_pos rfl]
        rw [decide_eq_true_iff] at h1
        have h2 : sameFc f g = false := by
          cases h2 : sameFc f g
          · rfl
          · obtain ⟨a, _⟩ := same_parts h2; omega
        have h3 : decide (g.k = 2) = false := decide_eq_false (by omega)
        rw [h2, h3, if_neg (by simp)]
        rw [Bool.true_or, if_pos rfl]
        exact eqG_self _
    · rw [Bool.true_or, if_pos rfl, if_pos rfl]
      exact eqG_self _
theorem join_lt {f g : Fc} (hf : f.v.b < 18446744073709551616) (hg : g.v.b < 18446744073709551616) (kf : f.k < 256) (kg : g.k < 256) : (joinF f g).k < 9223372036854775808 ∧ (joinF f g).v.b < 18446744073709551616 ∧ (joinG f g).v.b < 18446744073709551616 := by
  refine ⟨?_, ?_, ?_⟩
  · unfold joinF; repeat' split
    all_goals first | omega | (show (2 : Nat) < _; omega) | (show (0 : Nat) < _; omega)
  · unfold joinF; repeat' split
    all_goals first | omega | (show (0 : Nat) < _; omega)
  · unfold joinG; repeat' split
    all_goals first | omega | (show (0 : Nat) < _; omega)
end Go.Proofs
