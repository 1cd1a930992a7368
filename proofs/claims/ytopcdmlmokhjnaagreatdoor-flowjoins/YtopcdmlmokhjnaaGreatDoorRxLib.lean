/-
  Functions that are known: what a call of them comes to.
-/
import Derived.Test.YtopcdmlmokhjnaaGreatDoorRxRun
set_option linter.unusedVariables false
namespace Go.Rx

/-- a value that names no block -/
def pureA : AV → Bool
  | .int _ _ => true
  | .bool _ => true
  | .ptr _ _ => false
  | .slc _ _ _ _ => false
  | .agg cs => pureA cs
  | .str _ => true
  | .fn _ cs => pureA cs
  | .yld _ => false
  | .map _ => false
  | .tup cs => pureA cs
  | .oth _ => true
  | .nl => true
  | .cons h t => pureA h && pureA t
mutual
theorem VR.pure {ρ ρ' : Ren} {a : AV} {v : Value} (h : VR ρ a v) (hp : pureA a = true) : VR ρ' a v := match h with
  | .int k n => .int k n
  | .bool b => .bool b
  | .ptr _ => nomatch hp
  | .slc _ _ => nomatch hp
  | .agg h hc => .agg (LR.pure h hp) hc
  | .str s => .str s
  | .fn h => .fn (LR.pure h hp)
  | .yld _ => nomatch hp
  | .map _ => nomatch hp
  | .tup h => .tup (LR.pure h hp)
  | .oth v h => .oth v h
theorem LR.pure {ρ ρ' : Ren} {a : AV} {l : List Value} (h : LR ρ a l) (hp : pureA a = true) : LR ρ' a l := match h with
  | .nl => .nl
  | .cons hv hl => by
    have hp : (pureA _ && pureA _) = true := hp
    rw [Bool.and_eq_true] at hp
    exact .cons (VR.pure hv hp.1) (LR.pure hl hp.2)
end
def mz : Mem := ⟨.e, 0, 0⟩
theorem rel_none (w : World) : Rel (fun _ => none) mz w := ⟨fun i y l _ h => (by cases h), fun i i' y y' l l' _ _ h => (by cases h), fun i l h => (by cases h)⟩
theorem post_world {ρ : Ren} {m : Mem} {w w' : World} (hr : Rel ρ m w) (hs : w.heap.size ≤ w'.heap.size) (hio : w'.os = w.os ∧ w'.output = w.output) (hf : ∀ b, b < w.heap.size → w'.heap[b]? = w.heap[b]?) : Post ρ m w ρ m w' :=
  ⟨Ren.le_refl _, fun i l h h' => (by rw [h] at h'; cases h'), ⟨fun i x l hx hl => by rw [hf l.b (hr.lt _ _ hl).1]; exact hr.blk i x l hx hl, hr.inj, fun i l h => ⟨Nat.lt_of_lt_of_le (hr.lt i l h).1 hs, (hr.lt i l h).2⟩⟩,
    Nat.le_refl _, fun _ _ _ => rfl, fun _ _ h => h, fun b hb _ => hf b hb, hs, hio⟩
theorem post_none {ρ' : Ren} {m' : Mem} {w w' : World} (h : Post (fun _ => none) mz w ρ' m' w') : w.heap.size ≤ w'.heap.size ∧ (w'.os = w.os ∧ w'.output = w.output) ∧ ∀ b, b < w.heap.size → w'.heap[b]? = w.heap[b]? :=
  ⟨h.size, h.io, fun b hb => h.frame b hb fun i y l h => by cases h⟩
section
variable {E : Env} {P : Program}
/-- a function of values alone, whatever memory is -/
def Pure (E : Env) (P : Program) {α : Type} (f : FuncId) (enc spec : α → AV) : Prop := ∀ p m, CallGood E P f (enc p) m (spec p) m
theorem good_any (hng : E.ng = 0) {f : FuncId} {args v : AV} {m' : Mem} (h : CallGood E P f args mz v m') (ha : pureA args = true) (hv : pureA v = true) (m : Mem) : CallGood E P f args m v m := by
  intro ρ w vs hG hl hr
  rcases h (fun _ => none) w vs (fun g hg => by rw [hng] at hg; omega) (hl.pure ha) (rel_none w) with ⟨ρ', v', w', h1, h2, h3, h4⟩ | ⟨h1, h2⟩
  · obtain ⟨a, b, c⟩ := post_none h2
    exact .inl ⟨ρ, v', w', h1, post_world hr a b c, h3.pure hv, h4⟩
  · refine .inr ⟨h1, fun n => callsIn_mono' (h2 n) fun e w' he => ?_⟩
    obtain ⟨ρ', v', rfl, hp, hv'⟩ := he
    obtain ⟨a, b, c⟩ := post_none hp
    exact ⟨ρ, v', rfl, post_world hr a b c, hv'.pure hv⟩
open Classical in
noncomputable def pureS {α : Type} (enc spec : α → AV) : AV → Mem → (AV → Mem → R) → R := fun args m k => if h : ∃ p, enc p = args then k (spec h.choose) m else none
theorem pureS_at {α : Type} {enc spec : α → AV} (inj : ∀ p q, enc p = enc q → p = q) (p : α) (m : Mem) (k : AV → Mem → R) : pureS enc spec (enc p) m k = k (spec p) m := by
  unfold pureS
  have h : ∃ q, enc q = enc p := ⟨p, rfl⟩
  rw [dif_pos h]
  have := inj _ _ h.choose_spec
  rw [this]
def fs0 : Fs := { call := fun _ _ _ _ => none, round := fun _ _ _ _ => none }
theorem fs0_ok : FsOK E P fs0 := ⟨(fun h => nomatch (show (none : R) = _ from h)), (fun h => nomatch (show (none : R) = _ from h))⟩
def fsExt (L : Fs) (f : FuncId) (s : AV → Mem → (AV → Mem → R) → R) : Fs := { call := fun g args m k => if g = f then s args m k else L.call g args m k, round := L.round }
theorem ext_same {L : Fs} {f : FuncId} {s : AV → Mem → (AV → Mem → R) → R} {args : AV} {m : Mem} {k : AV → Mem → R} : (fsExt L f s).call f args m k = s args m k := if_pos rfl
theorem ext_ne {L : Fs} {f g : FuncId} {s : AV → Mem → (AV → Mem → R) → R} {args : AV} {m : Mem} {k : AV → Mem → R} (h : g ≠ f) : (fsExt L f s).call g args m k = L.call g args m k := if_neg h
theorem ext_ok {L : Fs} (hL : FsOK E P L) {f : FuncId} {s : AV → Mem → (AV → Mem → R) → R} (hs : ∀ {args m k r}, s args m k = some r → ∃ v m', k v m' = some r ∧ CallGood E P f args m v m' ∧ MemFr m m') : FsOK E P (fsExt L f s) := by
  refine ⟨fun {g args m k r} h => ?_, hL.round⟩
  by_cases e : g = f
  · subst e; rw [ext_same] at h; exact hs h
  · rw [ext_ne e] at h; exact hL.call h
theorem ext_pure {L : Fs} (hL : FsOK E P L) {α : Type} {f : FuncId} {enc spec : α → AV} (h : Pure E P f enc spec) : FsOK E P (fsExt L f (pureS enc spec)) := by
  refine ext_ok hL fun {args m k r} hk => ?_
  unfold pureS at hk
  by_cases hx : ∃ p, enc p = args
  · rw [dif_pos hx] at hk
    have e := hx.choose_spec
    refine ⟨_, m, hk, ?_, MemFr.refl m⟩
    have := h hx.choose m
    rw [e] at this
    exact this
  · rw [dif_neg hx] at hk; cases hk
/-- a function that is run by its body, wherever it is called -/
noncomputable def fsInl (E : Env) (L : Fs) (f : FuncId) : Fs := fsExt L f fun args m k => (fnC E f).f L args m k
theorem ext_inl (hE : EnvOK E P) {L : Fs} (hL : FsOK E P L) (f : FuncId) : FsOK E P (fsInl E L f) :=
  ext_ok hL fun {args m k r} h => fnC_ok hE hL (draw_ok hE hL) h
theorem inl_same {L : Fs} {f : FuncId} {args : AV} {m : Mem} {k : AV → Mem → R} : (fsInl E L f).call f args m k = (fnC E f).f L args m k := if_pos rfl
theorem inl_ne {L : Fs} {f g : FuncId} {args : AV} {m : Mem} {k : AV → Mem → R} (h : g ≠ f) : (fsInl E L f).call g args m k = L.call g args m k := if_neg h
/-- how a function is shown to be one of values alone -/
theorem pure_of_run (hE : EnvOK E P) (hng : E.ng = 0) {L : Fs} (hL : FsOK E P L) {α : Type} {f : FuncId} {enc spec : α → AV} (ha : ∀ p, pureA (enc p) = true) (hv : ∀ p, pureA (spec p) = true)
    (h : ∀ p, (fnC E f).f L (enc p) mz (fun v _ => some (.mk v mz)) = some (.mk (spec p) mz)) : Pure E P f enc spec := by
  intro p m
  obtain ⟨v, m', h1, h2, _⟩ := fnC_ok hE hL (draw_ok hE hL) (h p)
  have e : v = spec p := by injection h1 with h1; injection h1
  subst e
  exact good_any hng h2 (ha p) (hv p) m
/-- a closed call that is known to return true -/
theorem pure_of_calls {f : FuncId} (hen : ∀ w, (callFunc f #[]).run P w = .ok (.enter f #[]) w)
    (h : ∀ w, Calls P f #[] w fun e w' => e = .returned (.bool true) ∧ w.heap.size ≤ w'.heap.size ∧ (w'.os = w.os ∧ w'.output = w.output) ∧ ∀ b, b < w.heap.size → w'.heap[b]? = w.heap[b]?) :
    Pure E P f (fun _ : Unit => AV.nl) (fun _ => .bool true) := by
  intro p m ρ w vs hG hl hr
  cases hl
  refine .inr ⟨hen w, fun n => callsIn_wide.2 ((h w).mono fun e w' he => ?_)⟩
  obtain ⟨rfl, h1, h2, h3⟩ := he
  exact ⟨ρ, .bool true, rfl, post_world hr h1 h2 h3, .bool true⟩
end
end Go.Rx
