/-
  Facts: Join is the least that both are below; Below is an order.
-/
import Derived.Test.YtkebidaikmmlbaaGreatDoorLaw38c
set_option linter.unusedVariables false
set_option linter.unusedSimpArgs false
namespace Go.Proofs
open Go Go.Rx
theorem bytes_eq (s t : List UInt8) : beqBytes s t = true ↔ s = t := by
  have e : beqBytes s t = decide (s = t) := by
    induction s generalizing t with
    | nil => cases t <;> rfl
    | cons x s ih =>
      cases t with
      | nil => rfl
      | cons y t =>
        show br (Nat.beq x.toNat y.toNat) (beqBytes s t) false = _
        rw [s_beq, ih]
        by_cases h : x = y
        · subst h
          rw [decide_eq_true rfl]
          show decide (s = t) = _
          by_cases h2 : s = t
          · rw [decide_eq_true h2, decide_eq_true (by rw [h2])]
          · rw [decide_eq_false h2, decide_eq_false (fun e : x :: s = x :: t => h2 (List.cons.inj e).2)]
        · have h1 : decide (x.toNat = y.toNat) = false := decide_eq_false fun e => h (UInt8.toNat_inj.1 e)
          have h2 : decide (x :: s = y :: t) = false := decide_eq_false fun e => h (List.cons.inj e).1
          rw [h1, h2]; rfl
  rw [e]; exact decide_eq_true_iff
inductive Ab where
  | bot
  | one (n : Bool) (s : List UInt8) (b : Nat)
  | top
noncomputable def abs (f : Fc) : Ab := if f.k = 0 then .bot else if f.k = 2 then .top else .one f.v.n f.v.s (canonF f.v.b)
theorem sameF_iff (a b : Nat) : sameF a b = true ↔ canonF a = canonF b := by unfold sameF; exact decide_eq_true_iff
theorem sameV_iff (v w : Vl) : sameV v w = true ↔ v.n = w.n ∧ v.s = w.s ∧ canonF v.b = canonF w.b := by
  unfold sameV
  rw [Bool.and_eq_true, Bool.and_eq_true, bytes_eq, sameF_iff, beq_iff_eq]
theorem right_kind {f : Fc} (h : rightF f = true) : f.k = 1 ∨ ((f.k = 0 ∨ f.k = 2) ∧ f.v.n = false ∧ f.v.s = [] ∧ canonF f.v.b = canonF 0) := by
  unfold rightF at h
  by_cases h1 : f.k = 1
  · exact .inl h1
  · rw [if_neg h1, Bool.and_eq_true, decide_eq_true_iff, sameV_iff] at h
    exact .inr ⟨by omega, h.2⟩
theorem same_iff {f g : Fc} (hf : rightF f = true) (hg : rightF g = true) : sameFc f g = true ↔ abs f = abs g := by
  unfold sameFc abs
  rw [hf, hg]
  simp only [Bool.true_and, Bool.and_eq_true, decide_eq_true_iff, sameV_iff]
  rcases right_kind hf with h1 | ⟨h1 | h1, h2, h3, h4⟩ <;> rcases right_kind hg with h1' | ⟨h1' | h1', h2', h3', h4'⟩ <;> simp [*]
theorem below_iff {f g : Fc} (hf : rightF f = true) (hg : rightF g = true) : belowF f g = true ↔ abs f = .bot ∨ abs g = .top ∨ abs f = abs g := by
  unfold belowF
  rw [hf, hg]
  simp only [Bool.true_and, Bool.or_eq_true, decide_eq_true_iff, same_iff hf hg]
  have hb : f.k = 0 ↔ abs f = .bot := by
    unfold abs
    by_cases h : f.k = 0
    · simp [h]
    · rw [if_neg h]; by_cases h2 : f.k = 2 <;> simp [h, h2]
  have ht : g.k = 2 ↔ abs g = .top := by
    unfold abs
    by_cases h : g.k = 0
    · simp [h]
    · rw [if_neg h]; by_cases h2 : g.k = 2 <;> simp [h2]
  rw [hb, ht]
theorem right0 : rightF ⟨0, v0⟩ = true := by
  unfold rightF
  rw [if_neg (by simp), Bool.and_eq_true, sameV_iff]
  exact ⟨rfl, rfl, rfl, rfl⟩
theorem right2 : rightF ⟨2, v0⟩ = true := by
  unfold rightF
  rw [if_neg (by simp), Bool.and_eq_true, sameV_iff]
  exact ⟨rfl, rfl, rfl, rfl⟩
open Classical in
noncomputable def jn (x y : Ab) : Ab := if x = .bot ∨ y = .top ∨ x = y then y else if y = .bot ∨ x = .top ∨ y = x then x else .top
theorem join_spec {f g : Fc} (hf : rightF f = true) (hg : rightF g = true) : rightF (joinF f g) = true ∧ abs (joinF f g) = jn (abs f) (abs g) := by
  unfold joinF jn
  rw [if_pos (by rw [hf, hg]; rfl)]
  by_cases h1 : belowF f g = true
  · rw [if_pos h1, if_pos ((below_iff hf hg).1 h1)]; exact ⟨hg, rfl⟩
  · rw [if_neg h1, if_neg (fun h => h1 ((below_iff hf hg).2 h))]
    by_cases h2 : belowF g f = true
    · rw [if_pos h2, if_pos ((below_iff hg hf).1 h2)]; exact ⟨hf, rfl⟩
    · rw [if_neg h2, if_neg (fun h => h2 ((below_iff hg hf).2 h))]; exact ⟨right2, rfl⟩
def le (x y : Ab) : Prop := x = .bot ∨ y = .top ∨ x = y
theorem jn_cases (x y : Ab) : (le x y ∧ jn x y = y) ∨ (¬ le x y ∧ le y x ∧ jn x y = x) ∨ (¬ le x y ∧ ¬ le y x ∧ jn x y = .top) := by
  unfold jn
  by_cases h1 : x = .bot ∨ y = .top ∨ x = y
  · rw [if_pos h1]; exact .inl ⟨h1, rfl⟩
  · rw [if_neg h1]
    by_cases h2 : y = .bot ∨ x = .top ∨ y = x
    · rw [if_pos h2]; exact .inr (.inl ⟨h1, h2, rfl⟩)
    · rw [if_neg h2]; exact .inr (.inr ⟨h1, h2, rfl⟩)
theorem le_refl' (x : Ab) : le x x := .inr (.inr rfl)
theorem le_trans' {x y z : Ab} (h : le x y) (h' : le y z) : le x z := by
  rcases h with rfl | rfl | rfl
  · exact .inl rfl
  · rcases h' with h | h | h
    · cases h
    · exact .inr (.inl h)
    · exact .inr (.inl h.symm)
  · exact h'
theorem le_anti {x y : Ab} (h : le x y) (h' : le y x) : x = y := by
  rcases h with rfl | rfl | rfl
  · rcases h' with h | h | h
    · exact h.symm
    · cases h
    · exact h.symm
  · rcases h' with h | h | h
    · cases h
    · exact h
    · exact h.symm
  · rfl
theorem jn_up (x y : Ab) : le x (jn x y) ∧ le y (jn x y) := by
  rcases jn_cases x y with ⟨h, e⟩ | ⟨_, h, e⟩ | ⟨_, _, e⟩ <;> rw [e]
  · exact ⟨h, le_refl' y⟩
  · exact ⟨le_refl' x, h⟩
  · exact ⟨.inr (.inl rfl), .inr (.inl rfl)⟩
theorem jn_least {x y z : Ab} (h : le x z) (h' : le y z) : le (jn x y) z := by
  rcases jn_cases x y with ⟨_, e⟩ | ⟨_, _, e⟩ | ⟨h1, h2, e⟩ <;> rw [e]
  · exact h'
  · exact h
  · -- two that are not below each other are both below the greatest one alone
    rcases h with rfl | rfl | rfl
    · exact absurd (.inl rfl) h1
    · exact .inr (.inl rfl)
    · exact absurd h' h2
theorem jn_comm (x y : Ab) : jn x y = jn y x :=
  le_anti (jn_least (jn_up y x).2 (jn_up y x).1) (jn_least (jn_up x y).2 (jn_up x y).1)
theorem jn_assoc (x y z : Ab) : jn (jn x y) z = jn x (jn y z) := by
  apply le_anti
  · exact jn_least (jn_least (jn_up _ _).1 (le_trans' (jn_up y z).1 (jn_up _ _).2)) (le_trans' (jn_up y z).2 (jn_up _ _).2)
  · exact jn_least (le_trans' (jn_up x y).1 (jn_up _ _).1) (jn_least (le_trans' (jn_up x y).2 (jn_up _ _).1) (jn_up _ _).2)
theorem jn_self (x : Ab) : jn x x = x := by
  rcases jn_cases x x with ⟨_, e⟩ | ⟨h, _⟩ | ⟨h, _⟩
  · exact e
  · exact absurd (le_refl' x) h
  · exact absurd (le_refl' x) h
theorem self38 (f : Fc) : sameFc f f = rightF f := by
  cases h : rightF f
  · unfold sameFc; rw [h]; rfl
  · exact (same_iff h h).2 rfl
theorem plain38 {a b c : Fc} (ha : rightF a = true) (hb : rightF b = true) (hc : rightF c = true) : Plain a b c := by
  obtain ⟨rab, eab⟩ := join_spec ha hb
  obtain ⟨rba, eba⟩ := join_spec hb ha
  obtain ⟨raa, eaa⟩ := join_spec ha ha
  obtain ⟨rbc, ebc⟩ := join_spec hb hc
  obtain ⟨r1, e1⟩ := join_spec rab hc
  obtain ⟨r2, e2⟩ := join_spec ha rbc
  have bi : ∀ {f g : Fc}, rightF f = true → rightF g = true → (belowF f g = true ↔ le (abs f) (abs g)) := fun h h' => below_iff h h'
  refine ⟨?_, ?_, ?_, ?_, ?_, ?_, ?_, ?_, ?_, ?_, ?_⟩
  · rw [same_iff rab rba, eab, eba]; exact jn_comm _ _
  · rw [same_iff raa ha, eaa]; exact jn_self _
  · rw [bi ha rab, eab]; exact (jn_up _ _).1
  · rw [bi hb rab, eab]; exact (jn_up _ _).2
  · rw [same_iff r1 r2, e1, e2, eab, ebc]; exact jn_assoc _ _ _
  · apply Bool.eq_iff_iff.2
    rw [Bool.and_eq_true, bi rab hc, bi ha hc, bi hb hc, eab]
    exact ⟨fun h => ⟨le_trans' (jn_up _ _).1 h, le_trans' (jn_up _ _).2 h⟩, fun h => jn_least h.1 h.2⟩
  · apply Bool.eq_iff_iff.2
    rw [Bool.and_eq_true, same_iff ha hb, bi ha hb, bi hb ha]
    exact ⟨fun h => ⟨.inr (.inr h), .inr (.inr h.symm)⟩, fun h => le_anti h.1 h.2⟩
  · rw [bi ha hb, bi hb hc, bi ha hc]; exact le_trans'
  · apply Bool.eq_iff_iff.2
    rw [same_iff rab hb, bi ha hb, eab]
    exact ⟨fun h => h ▸ (jn_up _ _).1, fun h => le_anti (jn_least h (le_refl' _)) (jn_up _ _).2⟩
  · rw [bi right0 ha]; exact .inl rfl
  · rw [bi ha right2]; exact .inr (.inl rfl)
end Go.Proofs
