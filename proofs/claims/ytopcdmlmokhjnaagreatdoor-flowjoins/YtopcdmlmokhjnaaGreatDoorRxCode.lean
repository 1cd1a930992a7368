/-
  The executor's code, and the model's: everything but regions that draw their order.
-/
import Derived.Test.YtopcdmlmokhjnaaGreatDoorRxOpC
import Derived.RangeFuncLeaves
import Derived.LoopNIn
import Derived.TacticsIn
set_option linter.unusedVariables false
set_option linter.unusedSimpArgs false
set_option linter.unusedSectionVars false
namespace Go.Rx

/-! ### A scope that is gone through without a jump -/
def noGoto (Q : Exit → Act → World → Prop) : Exit → Act → World → Prop
  | .goto _, _, _ => False
  | e, a, w => Q e a w
section
variable {F : Fence} {n : Nat} {P : Program} {Q : Exit → Act → World → Prop} {a : Act} {w : World} {b : Frame} {k : List Item} {cs : List Frame}
theorem stepR_scope {c : Code} : step P (lone (b.atR a (.code (.scope c) :: k)) cs w) = .next (lone (b.atR a (.code c :: .inScope c :: k)) cs w) :=
  step_lone_go (by simp [stepG, stepG.exec, Frame.atR])
theorem stepR_inScope {c : Code} : step P (lone (b.atR a (.inScope c :: k)) cs w) = .next (lone (b.atR a k) cs w) :=
  step_lone_go (by simp [stepG, stepG.exec, Frame.atR])
theorem wpIn_scope_straight {c : Code} (h : c.wpIn F n P (noGoto Q) a w) : (Code.scope c).wpIn F n P Q a w := by
  intro b k cs hro hb hr
  have h0 : (lone (b.atR a (.code (.scope c) :: k)) cs w).fenced P F := fenced_calm hb hr rfl
  obtain ⟨e, a₁, w₁, hq, harr⟩ := h b (.inScope c :: k) cs hro hb hr
  cases e with
  | normal => exact ⟨.normal, a₁, w₁, hq, .head h0 stepR_scope (StepsIn.trans harr (.one (fenced_calm hb hr rfl) stepR_inScope))⟩
  | exit id =>
    have hx : exitTo id (.inScope c :: k) = exitTo id k := by simp [exitTo]
    refine ⟨.exit id, a₁, w₁, hq, .of_steps (.one h0 stepR_scope) ⟨fun k' hk => harr.1 k' (by rw [hx]; exact hk), fun hs hk => harr.2 hs (by rw [hx]; exact hk)⟩⟩
  | goto l => exact hq.elim
  | ret => exact ⟨_, a₁, w₁, hq, .of_steps (.one h0 stepR_scope) harr⟩
  | panic ch => exact ⟨_, a₁, w₁, hq, .of_steps (.one h0 stepR_scope) harr⟩
  | outgrown => exact ⟨_, a₁, w₁, hq, .of_steps (.one h0 stepR_scope) harr⟩
end

/-! ### Operations with their guards -/
def OpGood (E : Env) (P : Program) (nt : Nat) (ops : Array Oper) (o : Oper) (tm : TM) (m : Mem) (tm' : TM) (m' : Mem) : Prop :=
  ∀ (rd : Option Nat) (n : Nat) (ρ : Ren) (a : Act) (w : World), Glob E ρ → TmR ρ nt tm a.tmps → Rel ρ m w → ∀ (next : Act → World → Prop) (Q : Exit → Act → World → Prop),
    (∀ ρ' a' w', Post ρ m w ρ' m' w' → TmR ρ' nt tm' a'.tmps → a'.defers = a.defers → next a' w') →
    if Region.wanted o (yielded ops a.tmps) then o.wpIn (fence rd) n P a w next Q else (∀ f, o.about P w a.eval = some f → (fence rd).fn f) ∧ next (a.put o.dst undef) w
theorem fence_fn (rd : Option Nat) (f : FuncId) : (fence rd).fn f := by
  cases rd with
  | none => exact trivial
  | some l => exact trivial
theorem fence_round_eq (rd : Option Nat) : (fence rd).round = rd := by
  cases rd with
  | none => rfl
  | some l => rfl
section
variable {E : Env} {P : Program} {nt : Nat} {ops : Array Oper} {o : Oper} {tm : TM} {m : Mem} (hE : EnvOK E P)
theorem opC_noDefer {ih : Fs} {k : TM → Mem → R} {r : VM} (h : (opC E nt o).f ih tm m k = some r) : ∀ c, o.op ≠ .defer c := by
  intro c e
  obtain ⟨d, hd, h⟩ := withO_some h
  rw [e] at h
  exact (noC_no h).elim
theorem avTest_val {v : AV} {b : Bool} {y n : R} {r : VM} (h : avTest v b y n = some r) : (v = .bool b ∧ y = some r) ∨ (n = some r ∧ ∀ (ρ : Ren) (vv : Value), VR ρ v vv → ∀ c, vv = .bool c → c ≠ b) := by
  cases v with
  | bool c =>
    cases c with
    | true =>
      cases b with
      | true => exact .inl ⟨rfl, h⟩
      | false => exact .inr ⟨h, fun ρ vv hv c e => by have := vr_bool hv; subst this; cases e; intro e; cases e⟩
    | false =>
      cases b with
      | true => exact .inr ⟨h, fun ρ vv hv c e => by have := vr_bool hv; subst this; cases e; intro e; cases e⟩
      | false => exact .inl ⟨rfl, h⟩
  | oth x =>
    cases x with
    | bool c => exact nomatch (show (none : R) = some r from h)
    | _ => exact .inr ⟨h, fun ρ vv hv c e => by obtain ⟨e', _⟩ := vr_oth hv; rw [e'] at e; cases e⟩
  | int => exact .inr ⟨h, fun ρ vv hv c e => by have := vr_int hv; subst this; cases e⟩
  | ptr => exact .inr ⟨h, fun ρ vv hv c e => by obtain ⟨_, _, rfl⟩ := vr_ptr hv; cases e⟩
  | slc => exact .inr ⟨h, fun ρ vv hv c e => by obtain ⟨_, _, _, _, rfl⟩ := vr_slc hv; cases e⟩
  | agg => exact .inr ⟨h, fun ρ vv hv c e => by obtain ⟨_, _, _, rfl⟩ := vr_agg hv; cases e⟩
  | str => exact .inr ⟨h, fun ρ vv hv c e => by have := vr_str hv; subst this; cases e⟩
  | fn => exact .inr ⟨h, fun ρ vv hv c e => by obtain ⟨_, _, rfl⟩ := vr_fn hv; cases e⟩
  | yld => exact .inr ⟨h, fun ρ vv hv c e => by obtain ⟨_, _, rfl⟩ := vr_yld hv; cases e⟩
  | map => exact .inr ⟨h, fun ρ vv hv c e => by obtain ⟨_, _, rfl⟩ := vr_map hv; cases e⟩
  | tup => exact .inr ⟨h, fun ρ vv hv c e => by obtain ⟨_, _, rfl⟩ := vr_tup hv; cases e⟩
  | nl => exact .inr ⟨h, fun ρ vv hv c e => by cases hv⟩
  | cons => exact .inr ⟨h, fun ρ vv hv c e => by cases hv⟩
/-- what a guard says -/
def Wants (nt : Nat) (ops : Array Oper) (o : Oper) (E : Env) (tm : TM) (b : Bool) : Prop := ∀ (ρ : Ren) (a : Act), Glob E ρ → TmR ρ nt tm a.tmps → Region.wanted o (yielded ops a.tmps) = b
theorem guard_wanted {j : Nat} {b : Bool} {g : Oper} {t : Tmp} {x : Opd} {y n : R} {r : VM} (hg : o.guard = some (j, b)) (hj : nthL ops.toList j = some g) (ht : g.dst = some t) (hx : opdC E nt (.tmp t) = some x)
    (h : avTest (x.f tm) b y n = some r) : (Wants nt ops o E tm true ∧ y = some r) ∨ (Wants nt ops o E tm false ∧ n = some r) := by
  have hops : ops[j]? = some g := by rw [nthL_eq] at hj; simpa using hj
  have hlt0 : t < nt := by
    obtain ⟨h1, _⟩ := br_none (show br (Nat.blt t nt) (br (Nat.blt t 512) (some (getC t)) none) none = some x from hx)
    exact nblt h1
  have key : ∀ (ρ : Ren) (a : Act), Glob E ρ → TmR ρ nt tm a.tmps → ∃ hlt : t < a.tmps.size, VR ρ (x.f tm) a.tmps[t] ∧ yielded ops a.tmps j = (match a.tmps[t] with | .bool b => some b | _ => none) := by
    intro ρ a hG htm
    have hv := opdC_ok hx hG htm
    have hlt : t < a.tmps.size := by rw [htm.1]; exact hlt0
    have hev : a.eval (.tmp t) = a.tmps[t] := by simp [Act.eval, Array.getD, hlt]
    rw [hev] at hv
    refine ⟨hlt, hv, ?_⟩
    have : ((ops[j]?).bind (·.dst)).bind (a.tmps[·]?) = some a.tmps[t] := by rw [hops]; simp [ht, hlt]
    unfold yielded
    rw [this]
    cases a.tmps[t] <;> rfl
  rcases avTest_val h with ⟨e, h1⟩ | ⟨h1, e⟩
  · refine .inl ⟨fun ρ a hG htm => ?_, h1⟩
    obtain ⟨hlt, hv, hy⟩ := key ρ a hG htm
    rw [e] at hv
    have := vr_bool hv
    simp [Region.wanted, hg, hy, this]
  · refine .inr ⟨fun ρ a hG htm => ?_, h1⟩
    obtain ⟨hlt, hv, hy⟩ := key ρ a hG htm
    simp only [Region.wanted, hg, hy]
    cases hc : a.tmps[t] with
    | bool c =>
      have := e ρ _ hv c hc
      simp
      intro e'; exact this e'
    | _ => rfl
include hE
theorem opGood_yes {ih : Fs} (hF : FsOK E P ih) {k : TM → Mem → R} {r : VM} (h : (opC E nt o).f ih tm m k = some r) : ∃ tm' m', k tm' m' = some r ∧ MemFr m m' ∧ ∀ (rd : Option Nat) (n : Nat) (ρ : Ren) (a : Act) (w : World), Glob E ρ → TmR ρ nt tm a.tmps → Rel ρ m w → ∀ (next : Act → World → Prop) (Q : Exit → Act → World → Prop),
    (∀ ρ' a' w', Post ρ m w ρ' m' w' → TmR ρ' nt tm' a'.tmps → a'.defers = a.defers → next a' w') → o.wpIn (fence rd) n P a w next Q := by
  obtain ⟨tm', m', hk, hg, hfr⟩ := opC_ok hE hF h
  refine ⟨tm', m', hk, hfr, fun rd n ρ a w hG htm hr next Q hnext => ⟨fun f _ => fence_fn rd f, ?_⟩⟩
  rw [Oper.semAt_eq _ _ _ (opC_noDefer h)]
  exact hg rd n ρ a w hG htm hr next Q hnext
omit hE in
theorem skip_ok {k : TM → Mem → R} {r : VM} {ih : Fs} (h : (skipC nt o).f ih tm m k = some r) : ∃ tm', k tm' m = some r ∧ ∀ (ρ : Ren) (a : Act), TmR ρ nt tm a.tmps → TmR ρ nt tm' (a.put o.dst undef).tmps ∧ (a.put o.dst undef).defers = a.defers := by
  obtain ⟨d, hd, h⟩ := withO_some h
  obtain ⟨tm', hk, hput⟩ := dstC_ok hd h
  exact ⟨tm', hk, fun ρ a ht => hput ρ a undef ht (.oth _ (by intro cs e; cases e))⟩
theorem stepC_ok {ih : Fs} (hF : FsOK E P ih) {k : TM → Mem → R} {r : VM} (h : (stepC E nt ops.toList o).f ih tm m k = some r) : ∃ tm' m', k tm' m' = some r ∧ OpGood E P nt ops o tm m tm' m' ∧ MemFr m m' := by
  have h : (guardC E nt ops.toList o (opC E nt o) (skipC nt o)).f ih tm m k = some r := h
  unfold guardC at h
  cases hg : o.guard with
  | none =>
    rw [hg] at h
    obtain ⟨tm', m', hk, hfr, hgood⟩ := opGood_yes hE hF h
    refine ⟨tm', m', hk, fun rd n ρ a w hG htm hr next Q hnext => ?_, hfr⟩
    have hw : Region.wanted o (yielded ops a.tmps) = true := by simp [Region.wanted, hg]
    rw [if_pos hw]
    exact hgood rd n ρ a w hG htm hr next Q hnext
  | some jb =>
    obtain ⟨j, b⟩ := jb
    rw [hg] at h
    obtain ⟨g, hj, h⟩ := withO_some (show (withO (nthL ops.toList j) _).f ih tm m k = some r from h)
    obtain ⟨t, ht, h⟩ := withO_some h
    obtain ⟨x, hx, h⟩ := withO_some h
    have h : avTest (x.f tm) b ((opC E nt o).f ih tm m k) ((skipC nt o).f ih tm m k) = some r := h
    rcases guard_wanted hg hj ht hx h with ⟨hw, h1⟩ | ⟨hw, h1⟩
    · obtain ⟨tm', m', hk, hfr, hgood⟩ := opGood_yes hE hF h1
      refine ⟨tm', m', hk, fun rd n ρ a w hG htm hr next Q hnext => ?_, hfr⟩
      rw [if_pos (hw ρ a hG htm)]
      exact hgood rd n ρ a w hG htm hr next Q hnext
    · obtain ⟨tm', hk, hgood⟩ := skip_ok h1
      refine ⟨tm', m, hk, fun rd n ρ a w hG htm hr next Q hnext => ?_, MemFr.refl m⟩
      rw [if_neg (by rw [hw ρ a hG htm]; simp)]
      obtain ⟨q1, q2⟩ := hgood ρ a htm
      exact ⟨fun f _ => fence_fn rd f, hnext ρ _ w (Post.refl hr) q1 q2⟩
/-- a region in the order of its text -/
theorem regC_ok {ih : Fs} (hF : FsOK E P ih) : ∀ (todo : List Oper) {tm : TM} {m : Mem} {k : TM → Mem → R} {r : VM}, (regC E nt ops.toList todo).f ih tm m k = some r → ∃ tm' m', k tm' m' = some r ∧ MemFr m m' ∧
    ∀ (rd : Option Nat) (n : Nat) (ρ : Ren) (a : Act) (w : World), Glob E ρ → TmR ρ nt tm a.tmps → Rel ρ m w → ∀ (Q : Exit → Act → World → Prop),
      (∀ ρ' a' w', Post ρ m w ρ' m' w' → TmR ρ' nt tm' a'.tmps → a'.defers = a.defers → Q .normal a' w') → wpListIn (fence rd) n P ops Q todo a w := by
  intro todo
  induction todo with
  | nil =>
    intro tm m k r h
    exact ⟨tm, m, h, MemFr.refl m, fun rd n ρ a w hG htm hr Q hq => hq ρ a w (Post.refl hr) htm rfl⟩
  | cons o todo ihl =>
    intro tm m k r h
    have h1 : (stepC E nt ops.toList o).f ih tm m (fun tm' m' => (regC E nt ops.toList todo).f ih tm' m' k) = some r := by
      have : (regC E nt ops.toList (o :: todo)) = OpC.rec (motive := fun _ => OpC) (fun f => ⟨fun ih tm m k => f ih tm m fun tm' m' => (regC E nt ops.toList todo).f ih tm' m' k⟩) (stepC E nt ops.toList o) := rfl
      rw [this] at h
      generalize stepC E nt ops.toList o = c at h ⊢
      cases c
      exact h
    obtain ⟨tm1, m1, h2, hg, hfr⟩ := stepC_ok hE hF h1
    obtain ⟨tm2, m2, h3, hfr2, hrest⟩ := ihl h2
    refine ⟨tm2, m2, h3, hfr.trans hfr2, fun rd n ρ a w hG htm hr Q hq => ?_⟩
    simp only [wpListIn]
    refine hg rd n ρ a w hG htm hr _ Q fun ρ1 a1 w1 hp htm1 hd => ?_
    exact hrest rd n ρ1 a1 w1 (hG.mono hp.le) htm1 hp.rel Q fun ρ2 a2 w2 hp2 htm2 hd2 => hq ρ2 a2 w2 (Post.trans hr hp hp2) htm2 (hd2.trans hd)
end
end Go.Rx
