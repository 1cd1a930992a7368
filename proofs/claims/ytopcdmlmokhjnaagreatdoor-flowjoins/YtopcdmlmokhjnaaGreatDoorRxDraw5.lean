/-
  Regions that draw their order: the invariant is kept by whatever operation comes next.
-/
import Derived.Test.YtopcdmlmokhjnaaGreatDoorRxDraw4
set_option linter.unusedVariables false
set_option linter.unusedSimpArgs false
set_option linter.unusedSectionVars false
namespace Go.Rx

section
variable {E : Env} {P : Program} {nt : Nat} {ops : Array Oper} {T : Nat → TM} {M : Nat → Mem} {D : Nat → Did} (hC : Canon E P nt ops T M D) {S : Nat → Prop} {ρ0 ρ : Ren} {w0 w : World} {ds0 : List Deferred} {a : Act}
  {i : Nat} {o : Oper} (hi : ops[i]? = some o) (hni : ¬ S i) (hrd : ∀ e ∈ o.after, Region.binds .any e = true → S e.on)
include hC
/-- behind a writer that is undone, nothing that is heavy is done -/
theorem heavy_behind (hcl : Closed ops S) (hsz : ∀ j, S j → j < ops.size) {N j : Nat} (hN : Writer D N ∧ ¬ S N) (hlt : N < j) (hj : Heavy D j) : ¬ S j := by
  intro hS
  have hl := loose_of (ops := ops) (i := N) (j := j) fun h => hN.2 (hcl j hS N h)
  have hjs := hsz j hS
  obtain ⟨t, c, e⟩ := hN.1
  exact (heavy_loose hC (by omega) hjs hlt hl ⟨_, _, e⟩ hj).1 ⟨t, c, e⟩
include hi hni hrd
theorem heavy_front (hcl : Closed ops S) {N : Nat} (hN : N < ops.size → Writer D N ∧ ¬ S N) (hh : Heavy D i) : i ≤ N := by
  have hlt : i < ops.size := (Array.getElem?_eq_some_iff.1 hi).1
  rcases Nat.lt_or_ge N i with h | h
  · have hN := hN (by omega)
    obtain ⟨t, c, e⟩ := hN.1
    exact absurd ⟨t, c, e⟩ (heavy_loose hC (by omega) hlt h (before_done hi hrd hcl hN.2) ⟨_, _, e⟩ hh).1
  · exact h
theorem no_writer (hcl : Closed ops S) {N : Nat} (hNs : N ≤ ops.size) (hw : ∀ j, j < N → Writer D j → S j) (hh : Heavy D i) (hnw : ¬ Writer D i) : ∀ j, i ≤ j → j < N → ¬ Writer D j := by
  intro j h1 h2 hwr
  by_cases e : i = j
  · subst e; exact hnw hwr
  · obtain ⟨t, c, e'⟩ := hwr
    exact (heavy_loose hC (by omega) (by omega) (by omega) (after_loose hni hcl (hw j h2 ⟨t, c, e'⟩)) hh ⟨_, _, e'⟩).2 ⟨t, c, e'⟩
/-- an operation that only looks at memory -/
theorem inv_light (hr0 : Rel ρ0 (M 0) w0) (hI : Inv ops nt T M D S ρ0 w0 ds0 ρ a w) (hnw : ¬ Writer D i) {v : AV} {v' : Value} {w' : World} (hput : PutsTo nt o (T i) v (T (i + 1))) (hm : SameMem (M i) (M (i + 1)))
    (hv : VR (cut ρ (M i).nx) v v') {N : Nat} (hN : N ≤ ops.size ∧ (∀ j, j < N → Writer D j → S j) ∧ (N < ops.size → Writer D N ∧ ¬ S N) ∧ Rel ρ (M N) w ∧
      ∀ k id l x, k ≤ N → id < (M k).nx → ρ id = some l → (M N).hp.get id = some x → (∀ j t c, k ≤ j → j < N → D j = .heavy (some t) c → c = false ∧ t ≠ id) → BkR (cut ρ (M k).nx) x l w.heap[l.b]?)
    (hrel : Rel ρ (M N) w') (hframe : ∀ b, b < w0.heap.size → (∀ i x l, (M 0).hp.get i = some x → ρ0 i = some l → l.b ≠ b) → w'.heap[b]? = w0.heap[b]?) (hws : w0.heap.size ≤ w'.heap.size ∧ (w'.os = w0.os ∧ w'.output = w0.output)) :
    Inv ops nt T M D (fun j => S j ∨ j = i) ρ0 w0 ds0 ρ (a.put o.dst v') w' := by
  have hlt : i < ops.size := (Array.getElem?_eq_some_iff.1 hi).1
  obtain ⟨hNs, h1, h2, hr, hb⟩ := hN
  have hsl := slots_step hC hi hni hrd hI (Ren.le_refl ρ) hput (v' := v') (by rw [hm.2]; exact hv)
  refine ⟨(closed_add hI.closed hi hrd).1, fun j hj => ?_, ⟨N, hNs, fun j hj hw => .inl (h1 j hj hw), fun h => ⟨(h2 h).1, fun h' => ?_⟩, hrel, fun k id l x hk hid hl hx hc => (hb k id l x hk hid hl hx hc).back cut_le (hrel.blk id x l hx hl)⟩, fun id l hl => ?_, hsl.1, hsl.2, ?_, hI.le, hI.new,
    fun j hj id hid hd => ?_, fun j hj id hid h0 => ?_, hframe, hws.1, hws.2⟩
  · rcases hj with hj | rfl
    · exact hI.lt j hj
    · exact hlt
  · rcases h' with h' | rfl
    · exact (h2 h).2 h'
    · exact hnw (h2 h).1
  · rcases hI.own id l hl with h | ⟨j, h3, h4⟩
    · exact .inl h
    · exact .inr ⟨j, .inl h3, h4⟩
  · have : (a.put o.dst v').defers = a.defers := by unfold Act.put; cases o.dst <;> rfl
    rw [this]; exact hI.defers
  · rcases hj with hj | rfl
    · exact hI.dead j hj id hid hd
    · rw [hm.1]; exact hd
  · rcases hj with hj | rfl
    · exact hI.pend j hj id hid h0
    · rw [hm.1]
omit hi hni hrd hC in
theorem post_same {n : Nat} {mk : Mem} {w w' : World} {ρ1 : Ren} (hp : Post (cut ρ n) mk w ρ1 mk w') (hn : mk.nx = n) : ρ1 = cut ρ n := by
  funext id
  cases hc : cut ρ n id with
  | some l => exact hp.le _ _ hc
  | none =>
    cases h1 : ρ1 id with
    | none => rfl
    | some l =>
      have := (hp.new _ _ h1 hc).1
      have := (hp.rel.lt _ _ h1).2
      omega
omit hi hni hrd hC in
theorem glob_cut {E : Env} (hr0 : Rel ρ0 (M 0) w0) (hG : Glob E ρ0) (hle : Ren.le ρ0 ρ) {n : Nat} (hn : (M 0).nx ≤ n) : Glob E (cut ρ n) := fun g hg =>
  cut_some.2 ⟨Nat.lt_of_lt_of_le (hr0.lt _ _ (hG g hg)).2 hn, hle _ _ (hG g hg)⟩
/-- a quiet one -/
theorem step_none (hr0 : Rel ρ0 (M 0) w0) (hG : Glob E ρ0) (hI : Inv ops nt T M D S ρ0 w0 ds0 ρ a w) {v : AV} (hd : D i = .none) (hput : PutsTo nt o (T i) v (T (i + 1))) (hm : SameMem (M i) (M (i + 1))) (hg : ∀ m2, OpGV E P nt ops o (T i) m2 v m2)
    (rd : Option Nat) (n : Nat) (K : Act → World → Prop) (Q : Exit → Act → World → Prop) (hK : ∀ ρ' a' w', Inv ops nt T M D (fun j => S j ∨ j = i) ρ0 w0 ds0 ρ' a' w' → K a' w') :
    if Region.wanted o (yielded ops a.tmps) then o.wpIn (fence rd) n P a w K Q else (∀ f, o.about P w a.eval = some f → (fence rd).fn f) ∧ K (a.put o.dst undef) w := by
  have hlt : i < ops.size := (Array.getElem?_eq_some_iff.1 hi).1
  have h0i := nx_mono hC (Nat.zero_le i) (Nat.le_of_lt hlt)
  obtain ⟨N, hN⟩ := hI.bound
  have hr := hN.2.2.2.1
  have hk : Rel (cut ρ (M i).nx) ⟨.e, (M i).nx, 0⟩ w := ⟨fun j x l h => (by cases h), fun j j' x x' l l' h => (by cases h), fun j l h => ⟨(hr.lt j l (cut_some.1 h).2).1, (cut_some.1 h).1⟩⟩
  refine hg ⟨.e, (M i).nx, 0⟩ rd n _ a w (glob_cut hr0 hG hI.le h0i) (reads_ok hC hi hni hrd hI) hk K Q fun ρ1 v' w' hp hv => ?_
  have e := post_same hp rfl
  subst e
  have hheap : ∀ b, b < w.heap.size → w'.heap[b]? = w.heap[b]? := fun b hb => hp.frame b hb fun j x l h => (by cases h)
  have hnews := news_step hC hr0 hI hp h0i fun id _ _ => rfl
  refine hK ρ _ w' (inv_light hC hi hni hrd hr0 hI (by rintro ⟨t, c, h⟩; rw [hd] at h; cases h) hput hm hv hN ⟨fun j x l hx hl => ?_, hr.inj, fun j l hl => ⟨Nat.lt_of_lt_of_le (hr.lt j l hl).1 hp.size, (hr.lt j l hl).2⟩⟩ hnews.2.1 hnews.2.2)
  rw [hheap l.b (hr.lt j l hl).1]
  exact hr.blk j x l hx hl
/-- a read -/
theorem step_read (hr0 : Rel ρ0 (M 0) w0) (hG : Glob E ρ0) (hI : Inv ops nt T M D S ρ0 w0 ds0 ρ a w) {b : Nat} {v : AV} (hd : D i = .read b) (hput : PutsTo nt o (T i) v (T (i + 1))) (hm : SameMem (M i) (M (i + 1))) (hl : b < (M i).nx)
    (hb : ∀ (ρ : Ren) (a : Act), Glob E ρ → ReadsR ρ nt ops.toList o (T i) a → ∃ l, ρ b = some l) (hg : ∀ m2 : Mem, m2.hp.get b = (M i).hp.get b → OpGV E P nt ops o (T i) m2 v m2)
    (rd : Option Nat) (n : Nat) (K : Act → World → Prop) (Q : Exit → Act → World → Prop) (hK : ∀ ρ' a' w', Inv ops nt T M D (fun j => S j ∨ j = i) ρ0 w0 ds0 ρ' a' w' → K a' w') :
    if Region.wanted o (yielded ops a.tmps) then o.wpIn (fence rd) n P a w K Q else (∀ f, o.about P w a.eval = some f → (fence rd).fn f) ∧ K (a.put o.dst undef) w := by
  have hlt : i < ops.size := (Array.getElem?_eq_some_iff.1 hi).1
  have h0i := nx_mono hC (Nat.zero_le i) (Nat.le_of_lt hlt)
  obtain ⟨N, hN⟩ := hI.bound
  have ⟨hNs, h1, h2, hr, hbk⟩ := hN
  have hGk := glob_cut hr0 hG hI.le h0i (E := E)
  have hreads := reads_ok hC hi hni hrd hI
  obtain ⟨lb, hlb⟩ := hb _ a hGk hreads
  have hlb' := (cut_some.1 hlb).2
  have hnot : ¬ Writer D i := by rintro ⟨t, c, h⟩; rw [hd] at h; cases h
  -- the block is as it is in the order of the text
  have hup : ∀ j t c, i ≤ j → j < N → D j = .heavy (some t) c → c = false ∧ t ≠ b := by
    intro j t c h3 h4 h5
    have hij : i ≠ j := by intro e; subst e; rw [hd] at h5; cases h5
    have hS := h1 j h4 ⟨t, c, h5⟩
    exact read_loose hC hlt (by omega) hd h5 (.inl ⟨by omega, after_loose hni hI.closed hS⟩)
  have hdown : ∀ j t c, N ≤ j → j < i → D j = .heavy (some t) c → c = false ∧ t ≠ b := by
    intro j t c h3 h4 h5
    have hNw := h2 (by omega)
    have hS : ¬ S j := by
      by_cases e : N = j
      · subst e; exact hNw.2
      · exact heavy_behind hC hI.closed hI.lt hNw (by omega) ⟨_, _, h5⟩
    exact read_loose hC hlt (by omega) hd h5 (.inr ⟨h4, before_done hi hrd hI.closed hS⟩)
  have hsame : (M N).hp.get b = (M i).hp.get b := by
    rcases Nat.le_total i N with h | h
    · exact keep_block hC h hNs hup hl
    · exact (keep_block hC h (Nat.le_of_lt hlt) hdown (hr.lt b lb hlb').2).symm
  have hgetb : ((Tr.e : Tr Bk).set ((M i).hp.get b) b).get b = (M i).hp.get b := Tr.get_set_same _ _ _
  have hget : ∀ j, j ≠ b → ((Tr.e : Tr Bk).set ((M i).hp.get b) b).get j = none := fun j hj => (Tr.get_set_ne _ _ hj).trans rfl
  have hk : Rel (cut ρ (M i).nx) ⟨(Tr.e : Tr Bk).set ((M i).hp.get b) b, (M i).nx, 0⟩ w := by
    have only : ∀ {j x}, ((Tr.e : Tr Bk).set ((M i).hp.get b) b).get j = some x → j = b := by
      intro j x h
      by_cases e : j = b
      · exact e
      · rw [hget j e] at h; cases h
    refine ⟨fun j x l hx hjl => ?_, fun j j' x x' l l' hx hx' _ _ _ => (only hx).trans (only hx').symm, fun j l h => ⟨(hr.lt j l (cut_some.1 h).2).1, (cut_some.1 h).1⟩⟩
    have e := only hx
    subst e
    have hx : (M i).hp.get j = some x := by rw [← hgetb]; exact hx
    rw [← hsame] at hx
    have hjl' := (cut_some.1 hjl).2
    rcases Nat.le_total i N with h | h
    · exact hbk i j l x h hl hjl' hx hup
    · have := hbk N j l x (Nat.le_refl _) (hr.lt j l hjl').2 hjl' hx fun j t c h3 h4 => by omega
      exact this.mono (cut_mono (Ren.le_refl _) (nx_mono hC h (Nat.le_of_lt hlt)))
  refine hg ⟨(Tr.e : Tr Bk).set ((M i).hp.get b) b, (M i).nx, 0⟩ hgetb rd n _ a w hGk hreads hk K Q fun ρ1 v' w' hp hv => ?_
  have e := post_same hp rfl
  subst e
  have hnews := news_step hC hr0 hI hp h0i fun id hid hdd => by
    by_cases e : id = b
    · subst e
      show ((Tr.e : Tr Bk).set ((M i).hp.get id) id).get id = none
      rw [hgetb, ← hsame]
      exact dead_at hC hI N hNs h1 id hid hdd
    · exact hget id e
  refine hK ρ _ w' (inv_light hC hi hni hrd hr0 hI hnot hput hm hv hN ⟨fun j x l hx hjl => ?_, hr.inj, fun j l hl => ⟨Nat.lt_of_lt_of_le (hr.lt j l hl).1 hp.size, (hr.lt j l hl).2⟩⟩ hnews.2.1 hnews.2.2)
  by_cases e : j = b
  · subst e
    rw [hlb'] at hjl; cases hjl
    rw [hsame] at hx
    exact (hp.rel.blk j x lb (hgetb.trans hx) hlb).mono cut_le
  · rw [hp.frame l.b (hr.lt j l hjl).1 ?_]
    · exact hr.blk j x l hx hjl
    · intro j' x' l' hx' hl' he
      by_cases e' : j' = b
      · subst e'
        rw [hlb] at hl'; cases hl'
        have hx' : (M i).hp.get j' = some x' := by rw [← hgetb]; exact hx'
        rw [← hsame] at hx'
        exact e (hr.inj j j' x x' l lb hx hx' hjl hlb' he.symm)
      · have hx' : ((Tr.e : Tr Bk).set ((M i).hp.get b) b).get j' = some x' := hx'
        rw [hget j' e'] at hx'; cases hx'
end
end Go.Rx
