/-
  Regions that draw their order: one operation out of its turn.
-/
import Derived.Test.YtopcdmlmokhjnaaGreatDoorRxDraw3
set_option linter.unusedVariables false
set_option linter.unusedSimpArgs false
set_option linter.unusedSectionVars false
namespace Go.Rx

theorem apartT_spec {ops : List Oper} {a b : Oper} (h : apartT ops a b = true) : (∀ s, a.dst = some s → b.dst ≠ some s) ∧ (∀ s, a.dst = some s → s ∉ readsT ops b) ∧ (∀ s, b.dst = some s → s ∉ readsT ops a) := by
  unfold apartT at h
  cases h1 : optBeq a.dst b.dst with
  | true => rw [h1] at h; cases h
  | false =>
    rw [h1] at h
    have h : br (optMem a.dst (readsT ops b)) false (br (optMem b.dst (readsT ops a)) false true) = true := h
    cases h2 : optMem a.dst (readsT ops b) with
    | true => rw [h2] at h; cases h
    | false =>
      rw [h2] at h
      have h : br (optMem b.dst (readsT ops a)) false true = true := h
      cases h3 : optMem b.dst (readsT ops a) with
      | true => rw [h3] at h; cases h
      | false =>
        have mem : ∀ (s : Tmp) (d : Option Tmp) (l : List Tmp), d = some s → optMem d l = false → s ∉ l := by
          intro s d l hd hm hin
          subst hd
          have : memN s l = true := (anyL_iff _ _).2 ⟨s, hin, Nat.beq_refl s⟩
          have hm : memN s l = false := hm
          rw [this] at hm; cases hm
        refine ⟨fun s hs hs' => ?_, fun s hs => mem s _ _ hs h2, fun s hs => mem s _ _ hs h3⟩
        rw [hs, hs'] at h1
        have h1 : Nat.beq s s = false := h1
        rw [Nat.beq_refl] at h1; cases h1

section
variable {E : Env} {P : Program} {nt : Nat} {ops : Array Oper} {T : Nat → TM} {M : Nat → Mem} {D : Nat → Did} (hC : Canon E P nt ops T M D) {S : Nat → Prop} {ρ0 ρ : Ren} {w0 w : World} {ds0 : List Deferred} {a : Act}
  {i : Nat} {o : Oper} (hi : ops[i]? = some o) (hni : ¬ S i) (hrd : ∀ e ∈ o.after, Region.binds .any e = true → S e.on)
include hi hrd
theorem before_done (hcl : Closed ops S) {j : Nat} (hj : ¬ S j) : loose (Region.before ops).toList j i = true :=
  loose_of fun h => hj ((closed_add hcl hi hrd).2 j h)
omit hi hrd
include hni
theorem after_loose (hcl : Closed ops S) {j : Nat} (hj : S j) : loose (Region.before ops).toList i j = true :=
  loose_of fun h => hni (hcl j hj i h)
omit hni
include hC hi hni hrd
/-- an operation and one that is not done before it, or done behind it -/
theorem odd_apart (hI : Inv ops nt T M D S ρ0 w0 ds0 ρ a w) {j : Nat} {b : Oper} (hj : ops[j]? = some b) (h : (j < i ∧ ¬ S j) ∨ (i < j ∧ S j)) :
    (∀ s, o.dst = some s → b.dst ≠ some s) ∧ (∀ s, b.dst = some s → s ∉ readsT ops.toList o) := by
  rcases h with ⟨hlt, hs⟩ | ⟨hlt, hs⟩
  · have := apartT_spec (loose_apart hC.static hj hi hlt (before_done hi hrd hI.closed hs))
    exact ⟨fun s h1 h2 => this.1 s h2 h1, this.2.1⟩
  · have := apartT_spec (loose_apart hC.static hi hj hlt (after_loose hni hI.closed hs))
    exact ⟨this.1, this.2.2⟩
theorem reads_ok (hI : Inv ops nt T M D S ρ0 w0 ds0 ρ a w) : ReadsR (cut ρ (M i).nx) nt ops.toList o (T i) a := by
  have hlt : i < ops.size := (Array.getElem?_eq_some_iff.1 hi).1
  refine ⟨hI.size, fun t ht h1 h2 => ?_⟩
  obtain ⟨q, hq, hq0, hqs, hv⟩ := hI.slots t h1 h2
  have hqi : q ≤ i := by
    rcases hq0 with rfl | ⟨j, b, rfl, hS, hj, hd⟩
    · exact Nat.zero_le _
    · rcases Nat.lt_or_ge j i with h | h
      · exact h
      · rcases Nat.lt_or_ge i j with h' | h'
        · exact absurd ht ((odd_apart hC hi hni hrd hI hj (.inr ⟨h', hS⟩)).2 t hd)
        · have : i = j := by omega
          subst this; exact absurd hS hni
  have e : getT (T i) t = getT (T q) t := slot_range hC h2 hqi (Nat.le_of_lt hlt) fun j b hj1 hj2 hj hd => by
    by_cases hS : S j
    · have := (hqs j b hj hd).2 hS; omega
    · exact (odd_apart hC hi hni hrd hI hj (.inl ⟨hj2, hS⟩)).2 t hd ht
  rw [e]
  exact hv.mono (cut_mono (Ren.le_refl _) (nx_mono hC hqi (Nat.le_of_lt hlt)))
/-- the slots behind it -/
theorem slots_step (hI : Inv ops nt T M D S ρ0 w0 ds0 ρ a w) {ρ' : Ren} (hle : Ren.le ρ ρ') {v : AV} {v' : Value} (hput : PutsTo nt o (T i) v (T (i + 1))) (hv : VR (cut ρ' (M (i + 1)).nx) v v') : (a.put o.dst v').tmps.size = nt ∧
    ∀ s, s < nt → s < 512 → ∃ q, q ≤ ops.size ∧ (q = 0 ∨ ∃ j b, q = j + 1 ∧ (S j ∨ j = i) ∧ ops[j]? = some b ∧ b.dst = some s) ∧ (∀ j b, ops[j]? = some b → b.dst = some s → (j < q ↔ (S j ∨ j = i))) ∧
      VR (cut ρ' (M q).nx) (getT (T q) s) ((a.put o.dst v').tmps.getD s undef) := by
  have hlt : i < ops.size := (Array.getElem?_eq_some_iff.1 hi).1
  have hsz : (a.put o.dst v').tmps.size = nt := by
    unfold Act.put
    cases o.dst with
    | none => exact hI.size
    | some d => simpa using hI.size
  refine ⟨hsz, fun s h1 h2 => ?_⟩
  by_cases hd : o.dst = some s
  · refine ⟨i + 1, hlt, .inr ⟨i, o, rfl, .inr rfl, hi, hd⟩, fun j b hj hbd => ⟨fun hji => ?_, fun hji => ?_⟩, ?_⟩
    · rcases Nat.lt_or_ge j i with h | h
      · by_cases hS : S j
        · exact .inl hS
        · exact absurd hbd ((odd_apart hC hi hni hrd hI hj (.inl ⟨h, hS⟩)).1 s hd)
      · exact .inr (by omega)
    · rcases hji with hS | rfl
      · rcases Nat.lt_or_ge i j with h | h
        · exact absurd hbd ((odd_apart hC hi hni hrd hI hj (.inr ⟨h, hS⟩)).1 s hd)
        · omega
      · omega
    · rw [slot_of hput h2, if_pos hd]
      have : (a.put o.dst v').tmps.getD s undef = v' := by
        have hs : s < a.tmps.size := by rw [hI.size]; exact h1
        rw [hd]
        simp [Act.put, Array.getD, hs]
      rw [this]; exact hv
  · obtain ⟨q, hq, hq0, hqs, hv0⟩ := hI.slots s h1 h2
    refine ⟨q, hq, ?_, fun j b hj hbd => ?_, ?_⟩
    · rcases hq0 with h | ⟨j, b, h3, h4, h5⟩
      · exact .inl h
      · exact .inr ⟨j, b, h3, .inl h4, h5⟩
    · rw [hqs j b hj hbd]
      refine ⟨.inl, fun h => ?_⟩
      rcases h with h | rfl
      · exact h
      · rw [hi] at hj; cases hj; exact absurd hbd hd
    · have : (a.put o.dst v').tmps.getD s undef = a.tmps.getD s undef := by
        unfold Act.put
        cases hdo : o.dst with
        | none => rfl
        | some d =>
          have : d ≠ s := fun e => hd (by rw [hdo, e])
          simp [Array.getD_eq_getD_getElem?, Array.getElem?_setIfInBounds, this]
      rw [this]
      exact hv0.mono (cut_mono hle (Nat.le_refl _))
omit hi hni hrd
/-- what is dead at the start is dead later -/
theorem dead_at (hI : Inv ops nt T M D S ρ0 w0 ds0 ρ a w) : ∀ k, k ≤ ops.size → (∀ j, j < k → Writer D j → S j) → ∀ id, id < (M 0).nx → (M 0).hp.get id = none → (M k).hp.get id = none := by
  intro k
  induction k with
  | zero => intro _ _ id _ h; exact h
  | succ k ih =>
    intro hk hw id hid h
    have h1 := ih (by omega) (fun j hj => hw j (by omega)) id hid h
    by_cases hwr : Writer D k
    · exact hI.dead k (hw k (Nat.lt_succ_self k) hwr) id hid h1
    · rw [keep_step hC (by omega) hwr id (Nat.lt_of_lt_of_le hid (nx_mono hC (Nat.zero_le _) (by omega)))]; exact h1
/-- what is new, and what is left alone, after a run at some memory -/
theorem news_step (hr0 : Rel ρ0 (M 0) w0) (hI : Inv ops nt T M D S ρ0 w0 ds0 ρ a w) {n : Nat} {mk mk' : Mem} {ρ1 : Ren} {w' : World} (hp : Post (cut ρ n) mk w ρ1 mk' w') (hnx : (M 0).nx ≤ mk.nx)
    (hdead : ∀ id, id < (M 0).nx → (M 0).hp.get id = none → mk.hp.get id = none) :
    (∀ id l, ρ1 id = some l → ρ0 id = none → (M 0).nx ≤ id ∧ (w0.heap.size ≤ l.b ∨ ∃ j x k, (M 0).hp.get j = some x ∧ ρ0 j = some k ∧ k.b = l.b)) ∧
    (∀ b, b < w0.heap.size → (∀ i x l, (M 0).hp.get i = some x → ρ0 i = some l → l.b ≠ b) → w'.heap[b]? = w0.heap[b]?) ∧ w0.heap.size ≤ w'.heap.size ∧ (w'.os = w0.os ∧ w'.output = w0.output) := by
  have old : ∀ j x k, mk.hp.get j = some x → ρ j = some k → w0.heap.size ≤ k.b ∨ ∃ j x k', (M 0).hp.get j = some x ∧ ρ0 j = some k' ∧ k'.b = k.b := by
    intro j x k hx hk
    cases h0 : ρ0 j with
    | none => exact (hI.new j k hk h0).2
    | some k' =>
      have := hI.le _ _ h0
      rw [this] at hk; cases hk
      cases hm : (M 0).hp.get j with
      | none => rw [hdead j (hr0.lt _ _ h0).2 hm] at hx; cases hx
      | some x' => exact .inr ⟨j, x', _, hm, h0, rfl⟩
  refine ⟨fun id l hl h0 => ?_, fun b hb hf => ?_, Nat.le_trans hI.wsize hp.size, hp.io.1.trans hI.io.1, hp.io.2.trans hI.io.2⟩
  · cases hc : cut ρ n id with
    | some l' =>
      have := hp.le _ _ hc
      rw [this] at hl; cases hl
      exact hI.new id _ (cut_some.1 hc).2 h0
    | none =>
      obtain ⟨h1, h2⟩ := hp.new _ _ hl hc
      refine ⟨Nat.le_trans hnx h1, ?_⟩
      rcases h2 with h2 | ⟨j, x, k, hx, hk, hb⟩
      · exact .inl (Nat.le_trans hI.wsize h2)
      · rw [← hb]; exact old j x k hx (cut_some.1 hk).2
  · rw [hp.frame b (Nat.lt_of_lt_of_le hb hI.wsize) ?_, hI.frame b hb hf]
    intro j x l hx hl he
    rcases old j x l hx (cut_some.1 hl).2 with h | ⟨j', x', k', h1, h2, h3⟩
    · omega
    · exact hf j' x' k' h1 h2 (h3.trans he)
end
end Go.Rx
