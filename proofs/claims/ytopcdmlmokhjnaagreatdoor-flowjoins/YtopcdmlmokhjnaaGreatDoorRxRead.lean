/-
  What a call leaves in memory may be forgotten.
-/
import Derived.Test.YtopcdmlmokhjnaaGreatDoorRxMem
set_option linter.unusedVariables false
namespace Go.Rx
/-- nothing has come, as far as old blocks go -/
theorem Post.forget {ρ ρ' : Ren} {m m' : Mem} {w w' : World} (hr : Rel ρ m w) (h : Post ρ m w ρ' m' w') (hk : ∀ i, i < m.nx → m'.hp.get i = m.hp.get i) : Post ρ m w ρ m w' :=
  ⟨Ren.le_refl _, fun i l h h' => (by rw [h] at h'; cases h'),
    ⟨fun i x l hx hl => (hr.blk i x l hx hl).back h.le (h.rel.blk i x l (by rw [hk i (hr.lt _ _ hl).2]; exact hx) (h.le _ _ hl)), hr.inj, fun i l hl => ⟨Nat.lt_of_lt_of_le (hr.lt i l hl).1 h.size, (hr.lt i l hl).2⟩⟩,
    Nat.le_refl _, fun _ _ _ => rfl, fun _ _ h => h, h.frame, h.size, h.io⟩
theorem Post.sub {ρ ρ' : Ren} {m m' m2 : Mem} {w w' : World} (h : Post ρ m w ρ' m' w') (hn : m'.nx ≤ m2.nx) (hs : ∀ i x, m2.hp.get i = some x → m'.hp.get i = some x) (ho : ∀ i, i < m.nx → m2.hp.get i = m'.hp.get i) : Post ρ m w ρ' m2 w' :=
  ⟨h.le, h.new, ⟨fun i x l hx hl => h.rel.blk i x l (hs i x hx) hl, fun i i' x x' l l' h1 h2 => h.rel.inj i i' x x' l l' (hs _ _ h1) (hs _ _ h2), fun i l hl => ⟨(h.rel.lt i l hl).1, Nat.lt_of_lt_of_le (h.rel.lt i l hl).2 hn⟩⟩,
    Nat.le_trans h.nx hn, fun i hi hp => (ho i hi).trans (h.pend i hi hp), fun i hi hp => (ho i hi).trans (h.dead i hi hp), h.frame, h.size, h.io⟩
section
variable {E : Env} {P : Program}
theorem good_read {f : FuncId} {args v : AV} {m m' : Mem} (h : CallGood E P f args m v m') (hk : ∀ i, i < m.nx → m'.hp.get i = m.hp.get i) (hv : pureA v = true) : CallGood E P f args m v m := by
  intro ρ w vs hG hl hr
  rcases h ρ w vs hG hl hr with ⟨ρ', v', w', h1, h2, h3, h4⟩ | ⟨h1, h2⟩
  · exact .inl ⟨ρ, v', w', h1, h2.forget hr hk, h3.pure hv, h4⟩
  · refine .inr ⟨h1, fun n => callsIn_mono' (h2 n) fun e w' he => ?_⟩
    obtain ⟨ρ', v', rfl, hp, hv'⟩ := he
    exact ⟨ρ, v', rfl, hp.forget hr hk, hv'.pure hv⟩
theorem good_sub {f : FuncId} {args v : AV} {m m' m2 : Mem} (h : CallGood E P f args m v m') (hn : m'.nx ≤ m2.nx) (hs : ∀ i x, m2.hp.get i = some x → m'.hp.get i = some x) (ho : ∀ i, i < m.nx → m2.hp.get i = m'.hp.get i) : CallGood E P f args m v m2 := by
  intro ρ w vs hG hl hr
  rcases h ρ w vs hG hl hr with ⟨ρ', v', w', h1, h2, h3, h4⟩ | ⟨h1, h2⟩
  · exact .inl ⟨ρ', v', w', h1, h2.sub hn hs ho, h3, h4⟩
  · refine .inr ⟨h1, fun n => callsIn_mono' (h2 n) fun e w' he => ?_⟩
    obtain ⟨ρ', v', rfl, hp, hv'⟩ := he
    exact ⟨ρ', v', rfl, hp.sub hn hs ho, hv'⟩
end
/-- what is known of a call: what it returns, and in what memory -/
structure Spec where
  val : AV
  mem : Mem
open Classical in
/-- a function that is known by cases: `T args m s` says that the call comes to `s` -/
noncomputable def knownS (T : AV → Mem → Spec → Prop) : AV → Mem → (AV → Mem → R) → R := fun args m k => if h : ∃ s, T args m s then k h.choose.val h.choose.mem else none
section
variable {E : Env} {P : Program}
/-- it is called at places where just one outcome is right -/
theorem knownS_at {T : AV → Mem → Spec → Prop} {args : AV} {m : Mem} {s : Spec} (h : T args m s) (hu : ∀ s', T args m s' → s' = s) (k : AV → Mem → R) : knownS T args m k = k s.val s.mem := by
  unfold knownS
  rw [dif_pos ⟨s, h⟩]
  have : Exists.choose (⟨s, h⟩ : ∃ s, T args m s) = s := hu _ (Exists.choose_spec (⟨s, h⟩ : ∃ s, T args m s))
  rw [this]
theorem ext_known {L : Fs} (hL : FsOK E P L) {f : FuncId} {T : AV → Mem → Spec → Prop} (h : ∀ args m s, T args m s → CallGood E P f args m s.val s.mem ∧ MemFr m s.mem) : FsOK E P (fsExt L f (knownS T)) := by
  refine ext_ok hL fun {args m k r} hk => ?_
  unfold knownS at hk
  by_cases hx : ∃ s, T args m s
  · rw [dif_pos hx] at hk
    exact ⟨_, _, hk, h _ _ _ hx.choose_spec⟩
  · rw [dif_neg hx] at hk; cases hk
/-- how a function that only looks at memory is shown to be known -/
theorem reader_of_run (hE : EnvOK E P) {L : Fs} (hL : FsOK E P L) {f : FuncId} {args v : AV} {m m' : Mem} (hk : ∀ i, i < m.nx → m'.hp.get i = m.hp.get i) (hv : pureA v = true)
    (h : (fnC E f).f L args m (fun v m => some (.mk v m)) = some (.mk v m')) : CallGood E P f args m v m := by
  obtain ⟨v1, m1, h1, h2, _⟩ := fnC_ok hE hL (draw_ok hE hL) h
  have e : v1 = v ∧ m1 = m' := by injection h1 with h1; injection h1 with h1 h2; exact ⟨h1, h2⟩
  obtain ⟨rfl, rfl⟩ := e
  exact good_read h2 hk hv
/-- how a function that makes memory is shown to be known -/
theorem maker_of_run (hE : EnvOK E P) {L : Fs} (hL : FsOK E P L) {f : FuncId} {args v : AV} {m m' m2 : Mem} (hn : m'.nx ≤ m2.nx) (hs : ∀ i x, m2.hp.get i = some x → m'.hp.get i = some x) (ho : ∀ i, i < m.nx → m2.hp.get i = m'.hp.get i)
    (h : (fnC E f).f L args m (fun v m => some (.mk v m)) = some (.mk v m')) : CallGood E P f args m v m2 := by
  obtain ⟨v1, m1, h1, h2, _⟩ := fnC_ok hE hL (draw_ok hE hL) h
  have e : v1 = v ∧ m1 = m' := by injection h1 with h1; injection h1 with h1 h2; exact ⟨h1, h2⟩
  obtain ⟨rfl, rfl⟩ := e
  exact good_sub h2 hn hs ho
end
end Go.Rx
