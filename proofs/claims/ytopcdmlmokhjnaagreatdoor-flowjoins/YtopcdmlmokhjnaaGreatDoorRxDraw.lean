/-
  Regions that draw their order: what each operation did.
-/
import Derived.Test.YtopcdmlmokhjnaaGreatDoorRxQuiet
import Derived.OrdersIn
set_option linter.unusedVariables false
set_option linter.unusedSimpArgs false
set_option linter.unusedSectionVars false
namespace Go.Rx

/-- the temporaries that an operation reads stand for their values -/
def ReadsR (ρ : Ren) (nt : Nat) (ops : List Oper) (o : Oper) (tm : TM) (a : Act) : Prop := a.tmps.size = nt ∧ ∀ t ∈ readsT ops o, t < nt → t < 512 → VR ρ (getT tm t) (a.tmps.getD t undef)
/-- an operation with its guard, at a memory -/
def OpGV (E : Env) (P : Program) (nt : Nat) (ops : Array Oper) (o : Oper) (tm : TM) (m : Mem) (v : AV) (m' : Mem) : Prop :=
  ∀ (rd : Option Nat) (n : Nat) (ρ : Ren) (a : Act) (w : World), Glob E ρ → ReadsR ρ nt ops.toList o tm a → Rel ρ m w → ∀ (next : Act → World → Prop) (Q : Exit → Act → World → Prop),
    (∀ ρ' v' w', Post ρ m w ρ' m' w' → VR ρ' v v' → next (a.put o.dst v') w') →
    if Region.wanted o (yielded ops a.tmps) then o.wpIn (fence rd) n P a w next Q else (∀ f, o.about P w a.eval = some f → (fence rd).fn f) ∧ next (a.put o.dst undef) w
/-- where the value goes -/
def PutsTo (nt : Nat) (o : Oper) (tm : TM) (v : AV) (tm' : TM) : Prop := (o.dst = none ∧ tm' = tm) ∨ ∃ t, o.dst = some t ∧ t < nt ∧ t < 512 ∧ tm' = setT tm t v
def SameMem (m m' : Mem) : Prop := m'.hp = m.hp ∧ m'.nx = m.nx
/-- what an operation did, and what is known of it -/
inductive DrawOp (E : Env) (P : Program) (nt : Nat) (ops : Array Oper) (o : Oper) (tm : TM) (m : Mem) (tm' : TM) (m' : Mem) : Did → Prop
  | none (v : AV) (hput : PutsTo nt o tm v tm') (hm : SameMem m m') (hg : ∀ m2, OpGV E P nt ops o tm m2 v m2) : DrawOp E P nt ops o tm m tm' m' .none
  | read (b : Nat) (v : AV) (hput : PutsTo nt o tm v tm') (hm : SameMem m m') (hq : quiet o.op = false) (hl : b < m.nx) (hb : ∀ (ρ : Ren) (a : Act), Glob E ρ → ReadsR ρ nt ops.toList o tm a → ∃ l, ρ b = some l)
      (hg : ∀ m2 : Mem, m2.hp.get b = m.hp.get b → OpGV E P nt ops o tm m2 v m2) : DrawOp E P nt ops o tm m tm' m' (.read b)
  | heavy (w : Option Nat) (c : Bool) (v : AV) (hput : PutsTo nt o tm v tm') (hq : quiet o.op = false) (hnx : m.nx ≤ m'.nx) (h0 : w = .none → ∀ i, i < m.nx → m'.hp.get i = m.hp.get i)
      (h1 : ∀ t, w = some t → c = false → ∀ i, i < m.nx → i ≠ t → m'.hp.get i = m.hp.get i) (hg : OpGV E P nt ops o tm m v m') : DrawOp E P nt ops o tm m tm' m' (.heavy w c)

section
variable {E : Env} {P : Program} {nt : Nat} {ops : Array Oper} {o : Oper} {tm : TM} {m : Mem} (hE : EnvOK E P)
theorem mem_tmpsOf {t : Tmp} (h : Operand.tmp t ∈ o.op.operands) : t ∈ tmpsOf o := by
  have h : Operand.tmp t ∈ o.op.operands.toList := by simpa using h
  unfold tmpsOf
  generalize o.op.operands.toList = l at h
  induction l with
  | nil => cases h
  | cons x l ih =>
    rcases List.mem_cons.1 h with h | h
    · subst h; exact List.mem_cons_self ..
    · have := ih h
      cases x with
      | tmp s => exact List.mem_cons_of_mem _ this
      | _ => exact this
theorem tmpsOf_reads {ops : List Oper} {t : Tmp} (h : t ∈ tmpsOf o) : t ∈ readsT ops o := by
  unfold readsT
  cases hg : o.guard with
  | none => exact h
  | some jb =>
    obtain ⟨j, b⟩ := jb
    show t ∈ (match nthL ops j with | some g => (match g.dst with | some d => d :: tmpsOf o | none => tmpsOf o) | none => tmpsOf o)
    cases nthL ops j with
    | none => exact h
    | some g =>
      cases hd : g.dst with
      | none => simp [hd, h]
      | some d => simp [hd, h]
theorem opsR_reads {ρ : Ren} {a : Act} (hG : Glob E ρ) (h : ReadsR ρ nt ops.toList o tm a) : OpsR E nt o ρ tm a := by
  intro x hx p hp
  cases x with
  | tmp t =>
    obtain ⟨h1, hp⟩ := br_none (show br (Nat.blt t nt) (br (Nat.blt t 512) (some (getC t)) none) none = some p from hp)
    obtain ⟨h2, hp⟩ := br_none hp
    cases hp
    rw [getC_f]
    exact h.2 t (tmpsOf_reads (mem_tmpsOf hx)) (nblt h1) (nblt h2)
  | const v =>
    obtain ⟨h1, hp⟩ := br_none (show br (constOk v) (some (Opd.mk fun _ => ofVal v)) none = some p from hp)
    cases hp
    exact ofVal_vr v h1
  | global g =>
    obtain ⟨h1, hp⟩ := br_none (show br (Nat.blt g E.ng) (some (Opd.mk fun _ => .ptr g 0)) none = some p from hp)
    cases hp
    exact VR.ptr (l := ⟨g, 0, none⟩) (hG g (nblt h1))
  | func f => cases hp; exact VR.fn LR.nl
theorem puts_of {d : Put} {v : AV} {k : TM → R} {r : VM} (hd : dstC nt o.dst = some d) (h : d.f tm v k = some r) : ∃ tm', k tm' = some r ∧ PutsTo nt o tm v tm' := by
  cases hdst : o.dst with
  | none => rw [hdst] at hd; cases hd; exact ⟨tm, h, .inl ⟨hdst, rfl⟩⟩
  | some t =>
    rw [hdst] at hd
    obtain ⟨h1, hd⟩ := br_none (show br (Nat.blt t nt) (br (Nat.blt t 512) (some (putC t)) none) none = some d from hd)
    obtain ⟨h2, hd⟩ := br_none hd
    cases hd
    rw [putC_f (nblt h2)] at h
    exact ⟨_, h, .inr ⟨t, hdst, nblt h1, nblt h2, rfl⟩⟩
/-- what a guard says, from what is read alone -/
theorem guard_reads {j : Nat} {b : Bool} {g : Oper} {t : Tmp} {x : Opd} {y n : R} {r : VM} (hg : o.guard = some (j, b)) (hj : nthL ops.toList j = some g) (ht : g.dst = some t) (hx : opdC E nt (.tmp t) = some x)
    (h : avTest (x.f tm) b y n = some r) : ((∀ (ρ : Ren) (a : Act), ReadsR ρ nt ops.toList o tm a → Region.wanted o (yielded ops a.tmps) = true) ∧ y = some r) ∨ ((∀ (ρ : Ren) (a : Act), ReadsR ρ nt ops.toList o tm a → Region.wanted o (yielded ops a.tmps) = false) ∧ n = some r) := by
  have hops : ops[j]? = some g := by rw [nthL_eq] at hj; simpa using hj
  obtain ⟨h1, hx2⟩ := br_none (show br (Nat.blt t nt) (br (Nat.blt t 512) (some (getC t)) none) none = some x from hx)
  obtain ⟨h2, hx3⟩ := br_none hx2
  cases hx3
  rw [getC_f] at h
  have h1 := nblt h1
  have h2 := nblt h2
  have hmem : t ∈ readsT ops.toList o := by unfold readsT; rw [hg]; simp [hops, ht]
  have key : ∀ (ρ : Ren) (a : Act), ReadsR ρ nt ops.toList o tm a → ∃ hlt : t < a.tmps.size, VR ρ (getT tm t) a.tmps[t] ∧ yielded ops a.tmps j = (match a.tmps[t] with | .bool b => some b | _ => none) := by
    intro ρ a hR
    have hlt : t < a.tmps.size := by rw [hR.1]; exact h1
    have hv := hR.2 t hmem h1 h2
    have hev : a.tmps.getD t undef = a.tmps[t] := by simp [Array.getD, hlt]
    rw [hev] at hv
    refine ⟨hlt, hv, ?_⟩
    have : ((ops[j]?).bind (·.dst)).bind (a.tmps[·]?) = some a.tmps[t] := by rw [hops]; simp [ht, hlt]
    unfold yielded
    rw [this]
    cases a.tmps[t] <;> rfl
  rcases avTest_val h with ⟨e, h1⟩ | ⟨h1, e⟩
  · refine .inl ⟨fun ρ a hR => ?_, h1⟩
    obtain ⟨hlt, hv, hy⟩ := key ρ a hR
    rw [e] at hv
    have := vr_bool hv
    simp [Region.wanted, hg, hy, this]
  · refine .inr ⟨fun ρ a hR => ?_, h1⟩
    obtain ⟨hlt, hv, hy⟩ := key ρ a hR
    simp only [Region.wanted, hg, hy]
    cases hc : a.tmps[t] with
    | bool c =>
      have := e ρ _ hv c hc
      simp
      intro e'; exact this e'
    | _ => rfl
/-- wanted: the operation itself -/
theorem opGV_yes {v : AV} {m' : Mem} (hnd : ∀ c, o.op ≠ .defer c) (hw : ∀ (ρ : Ren) (a : Act), ReadsR ρ nt ops.toList o tm a → Region.wanted o (yielded ops a.tmps) = true) (h : GoodV E P nt o tm m v m') : OpGV E P nt ops o tm m v m' := by
  intro rd n ρ a w hG hR hr next Q hnext
  rw [if_pos (hw ρ a hR)]
  refine ⟨fun f _ => fence_fn rd f, ?_⟩
  rw [Oper.semAt_eq _ _ _ hnd]
  exact h rd n ρ a w hG (opsR_reads hG hR) hr next Q hnext
theorem opGV_no (hw : ∀ (ρ : Ren) (a : Act), ReadsR ρ nt ops.toList o tm a → Region.wanted o (yielded ops a.tmps) = false) : OpGV E P nt ops o tm m undefA m := by
  intro rd n ρ a w hG hR hr next Q hnext
  rw [if_neg (by rw [hw ρ a hR]; simp)]
  exact ⟨fun f _ => fence_fn rd f, hnext ρ _ w (Post.refl hr) (.oth _ (by intro cs e; cases e))⟩
include hE
theorem didC_ok {ih : Fs} (hF : FsOK E P ih) (hw : ∀ (ρ : Ren) (a : Act), ReadsR ρ nt ops.toList o tm a → Region.wanted o (yielded ops a.tmps) = true) {k : TM → Mem → Did → R} {r : VM} (h : (didC E nt o).f ih tm m k = some r) :
    ∃ tm' m' d, k tm' m' d = some r ∧ MemFr m m' ∧ DrawOp E P nt ops o tm m tm' m' d := by
  unfold didC at h
  cases hq : quiet o.op with
  | true =>
    rw [hq] at h
    have h : (opC E nt o).f ih tm m (fun tm' m' => k tm' m' .none) = some r := by
      have h : (OpC.rec (motive := fun _ => DrC) (fun f => ⟨fun ih tm m k => f ih tm m fun tm' m' => k tm' m' .none⟩) (opC E nt o) : DrC).f ih tm m k = some r := h
      generalize opC E nt o = c at h ⊢
      cases c; exact h
    obtain ⟨d, hd, v, h1, h2⟩ := quiet_fin hE hq h
    obtain ⟨tm', h3, hput⟩ := puts_of hd h1
    exact ⟨tm', m, .none, h3, MemFr.refl m, .none v hput ⟨rfl, rfl⟩ fun m2 => opGV_yes (opC_noDefer h) hw (h2 m2)⟩
  | false =>
    rw [hq] at h
    cases hra : readsAt o.op with
    | some x =>
      rw [hra] at h
      obtain ⟨t, hop⟩ : ∃ t, o.op = .load t x := by
        cases ho : o.op with
        | load t y => rw [ho] at hra; cases hra; exact ⟨t, rfl⟩
        | _ => rw [ho] at hra; cases hra
      have h : ((orec ⟨fun _ _ _ _ => none⟩ (fun (a : Opd) => OpC.rec (motive := fun _ => DrC) (fun f => ⟨fun ih tm m k => avPtr (a.f tm) fun b _ => br (Nat.blt b m.nx) (f ih tm m fun tm' m' => k tm' m' (.read b)) none⟩) (opC E nt o)) (opdC E nt x)) : DrC).f ih tm m k = some r := h
      cases hx : opdC E nt x with
      | none => rw [hx] at h; exact nomatch (show (none : R) = some r from h)
      | some p =>
        rw [hx] at h
        have h : avPtr (p.f tm) (fun b _ => br (Nat.blt b m.nx) ((opC E nt o).f ih tm m fun tm' m' => k tm' m' (.read b)) none) = some r := by
          have h : (OpC.rec (motive := fun _ => DrC) (fun f => ⟨fun ih tm m k => avPtr (p.f tm) fun b _ => br (Nat.blt b m.nx) (f ih tm m fun tm' m' => k tm' m' (.read b)) none⟩) (opC E nt o) : DrC).f ih tm m k = some r := h
          generalize opC E nt o = c at h ⊢
          cases c; exact h
        obtain ⟨b, i, e, h0⟩ := avPtr_some h
        obtain ⟨hbl, h⟩ := br_none h0
        obtain ⟨d, p', b', i', y, hd, hx', e', hy, v, h1, h2⟩ := load_fin hE hop h
        rw [hx] at hx'; cases hx'
        rw [e] at e'; cases e'
        obtain ⟨tm', h3, hput⟩ := puts_of hd h1
        refine ⟨tm', m, .read b, h3, MemFr.refl m, .read b v hput ⟨rfl, rfl⟩ hq (nblt hbl) ?_ fun m2 he => opGV_yes (opC_noDefer h) hw (h2 m2 he)⟩
        intro ρ a hG hR
        have hv := opsR_reads (o := o) hG hR x (by rw [hop]; simp [Op.operands]) p hx
        rw [e] at hv
        obtain ⟨l, hl, _⟩ := vr_ptr hv
        exact ⟨l, hl⟩
    | none =>
      rw [hra] at h
      have h : (opC E nt o).f ih tm ⟨m.hp, m.nx, m.nx⟩ (fun tm' m' => br (Nat.blt m'.lo m.nx) (br (Nat.ble m.lo m'.lo) (k tm' ⟨m'.hp, m'.nx, m.lo⟩ (.heavy (some m'.lo) (isCall o.op))) (k tm' m' (.heavy (some m'.lo) (isCall o.op))))
        (k tm' ⟨m'.hp, m'.nx, m.lo⟩ (.heavy none (isCall o.op)))) = some r := by
        have h : (OpC.rec (motive := fun _ => DrC) (fun f => ⟨fun ih tm m k => f ih tm ⟨m.hp, m.nx, m.nx⟩ fun tm' m' =>
          br (Nat.blt m'.lo m.nx) (br (Nat.ble m.lo m'.lo) (k tm' ⟨m'.hp, m'.nx, m.lo⟩ (.heavy (some m'.lo) (isCall o.op))) (k tm' m' (.heavy (some m'.lo) (isCall o.op))))
            (k tm' ⟨m'.hp, m'.nx, m.lo⟩ (.heavy none (isCall o.op)))⟩) (opC E nt o) : DrC).f ih tm m k = some r := h
        generalize opC E nt o = c at h ⊢
        cases c; exact h
      have hnd := opC_noDefer h
      obtain ⟨d, hd, v, m', h1, hg, hfr, hone⟩ := opC_fin hE hF h
      obtain ⟨tm', h2, hput⟩ := puts_of hd h1
      have hcall : isCall o.op = false → ∀ c x, o.op = .call c → c.callee ≠ .value x := by
        intro hc c x ho hcv
        rw [ho] at hc
        obtain ⟨callee, _, _⟩ := c
        cases hcv
        cases hc
      -- the same at whatever mark
      have hg' : ∀ lo, OpGV E P nt ops o tm m v ⟨m'.hp, m'.nx, lo⟩ := by
        intro lo
        refine opGV_yes hnd hw fun rd n ρ a w hG ht hr next Q hnext => hg rd n ρ a w hG ht (hr.lo m.nx) next Q fun ρ' v' w' hp hv => hnext ρ' v' w' ?_ hv
        have hp := hp.lo lo
        exact ⟨hp.le, hp.new, hp.rel, hp.nx, hp.pend, hp.dead, hp.frame, hp.size, hp.io⟩
      have hkeep : ∀ i, i < m.nx → i < m'.lo → m'.hp.get i = m.hp.get i := hfr.keep
      have hone' : ∀ t, some m'.lo = some t → isCall o.op = false → ∀ i, i < m.nx → i ≠ t → m'.hp.get i = m.hp.get i := by
        intro t ht hc i hi hne
        cases ht
        rcases hone (hcall hc) with h3 | ⟨t, h3, h4⟩
        · exact h3 i hi
        · have h3 : m'.lo = min m.nx t := h3
          by_cases hit : i = t
          · subst hit; exact absurd (by omega) hne
          · exact h4 i hi hit
      rcases br_some h2 with ⟨hlt, h3⟩ | ⟨hlt, h3⟩
      · rcases br_some h3 with ⟨hle, h4⟩ | ⟨hle, h4⟩
        · have hle := nble hle
          exact ⟨tm', _, _, h4, ⟨hfr.nx, Nat.le_refl _, fun i h5 h6 => hkeep i h5 (Nat.lt_of_lt_of_le h6 hle)⟩, .heavy _ _ v hput hq hfr.nx (fun e => by cases e) hone' (hg' _)⟩
        · have hle := nbef hle
          refine ⟨tm', m', _, h4, ⟨hfr.nx, Nat.le_of_lt hle, hkeep⟩, .heavy _ _ v hput hq hfr.nx (fun e => by cases e) hone' ?_⟩
          exact hg' m'.lo
      · have hge := nblf hlt
        exact ⟨tm', _, _, h3, ⟨hfr.nx, Nat.le_refl _, fun i h5 _ => hkeep i h5 (Nat.lt_of_lt_of_le h5 hge)⟩, .heavy _ _ v hput hq hfr.nx (fun _ i hi => hkeep i hi (Nat.lt_of_lt_of_le hi hge)) (fun t e => by cases e) (hg' _)⟩
theorem guardD_ok {ih : Fs} (hF : FsOK E P ih) {k : TM → Mem → Did → R} {r : VM} (h : (guardD E nt ops.toList o (didC E nt o) (skipC nt o)).f ih tm m k = some r) :
    ∃ tm' m' d, k tm' m' d = some r ∧ MemFr m m' ∧ DrawOp E P nt ops o tm m tm' m' d := by
  unfold guardD at h
  cases hg : o.guard with
  | none =>
    rw [hg] at h
    exact didC_ok hE hF (fun ρ a _ => by simp [Region.wanted, hg]) h
  | some jb =>
    obtain ⟨j, b⟩ := jb
    rw [hg] at h
    cases hj : nthL ops.toList j with
    | none => simp only [hj] at h; exact nomatch (show (none : R) = some r from h)
    | some g =>
      simp only [hj] at h
      cases ht : g.dst with
      | none => simp only [orec, ht] at h; exact nomatch (show (none : R) = some r from h)
      | some t =>
        simp only [orec, ht] at h
        cases hx : opdC E nt (.tmp t) with
        | none => simp only [hx] at h; exact nomatch (show (none : R) = some r from h)
        | some x =>
          simp only [hx] at h
          rcases guard_reads hg hj ht hx h with ⟨hw, h1⟩ | ⟨hw, h1⟩
          · exact didC_ok hE hF hw h1
          · obtain ⟨d, hd, h2⟩ := withO_some h1
            obtain ⟨tm', h3, hput⟩ := puts_of hd h2
            exact ⟨tm', m, .none, h3, MemFr.refl m, .none undefA hput ⟨rfl, rfl⟩ fun m2 => opGV_no hw⟩
/-! ### A region's run in the order of its text -/
omit hE in
theorem slot_of {v : AV} {tm' : TM} (h : PutsTo nt o tm v tm') {s : Nat} (hs : s < 512) : getT tm' s = if o.dst = some s then v else getT tm s := by
  rcases h with ⟨h1, rfl⟩ | ⟨t, h1, h2, h3, rfl⟩
  · rw [h1, if_neg (by simp)]
  · rw [getT_setT h3 hs, h1]
    by_cases e : s = t
    · rw [if_pos e, if_pos (by rw [e])]
    · rw [if_neg e, if_neg (by intro h; injection h with h; exact e h.symm)]
end
/-- the run: where the temporaries and memory stand before each operation, and what each did -/
structure Run (E : Env) (P : Program) (nt : Nat) (ops : Array Oper) (T : Nat → TM) (M : Nat → Mem) (D : Nat → Did) : Prop where
  op : ∀ i o, ops[i]? = some o → DrawOp E P nt ops o (T i) (M i) (T (i + 1)) (M (i + 1)) (D i)
section
variable {E : Env} {P : Program} {nt : Nat} {ops : Array Oper} (hE : EnvOK E P)
include hE
theorem drawL_ok {ih : Fs} (hF : FsOK E P ih) : ∀ (todo : List Oper) {tm : TM} {m : Mem} {k : TM → Mem → List Did → R} {r : VM}, (drawL E nt ops.toList todo).f ih tm m k = some r →
    ∃ (T : Nat → TM) (M : Nat → Mem) (D : Nat → Did) (ds : List Did), T 0 = tm ∧ M 0 = m ∧ k (T todo.length) (M todo.length) ds = some r ∧ MemFr m (M todo.length) ∧ (∀ i, i < todo.length → ds[i]? = some (D i)) ∧
      ∀ i o, todo[i]? = some o → DrawOp E P nt ops o (T i) (M i) (T (i + 1)) (M (i + 1)) (D i) := by
  intro todo
  induction todo with
  | nil => intro tm m k r h; exact ⟨fun _ => tm, fun _ => m, fun _ => .none, [], rfl, rfl, h, MemFr.refl m, fun i hi => (by cases hi), fun i o hi => (by cases hi)⟩
  | cons o todo ihl =>
    intro tm m k r h
    have h1 : (guardD E nt ops.toList o (didC E nt o) (skipC nt o)).f ih tm m (fun tm' m' d => (drawL E nt ops.toList todo).f ih tm' m' fun tm'' m'' ds => k tm'' m'' (d :: ds)) = some r := by
      have e : drawL E nt ops.toList (o :: todo) = DrC.rec (motive := fun _ => DsC) (fun f => ⟨fun ih tm m k => f ih tm m fun tm' m' d => (drawL E nt ops.toList todo).f ih tm' m' fun tm'' m'' ds => k tm'' m'' (d :: ds)⟩)
        (guardD E nt ops.toList o (didC E nt o) (skipC nt o)) := rfl
      rw [e] at h
      generalize guardD E nt ops.toList o (didC E nt o) (skipC nt o) = c at h ⊢
      cases c; exact h
    obtain ⟨tm1, m1, d, h2, hfr, hd⟩ := guardD_ok hE hF h1
    obtain ⟨T, M, D, ds, e1, e2, h3, hfr2, h4, h5⟩ := ihl h2
    refine ⟨fun i => match i with | 0 => tm | i + 1 => T i, fun i => match i with | 0 => m | i + 1 => M i, fun i => match i with | 0 => d | i + 1 => D i, d :: ds, rfl, rfl, h3, hfr.trans hfr2, ?_, ?_⟩
    · intro i hi
      cases i with
      | zero => rfl
      | succ i => exact h4 i (by simpa using hi)
    · intro i o' hi
      cases i with
      | zero =>
        have hi : o = o' := by simpa using hi
        subst hi
        show DrawOp E P nt ops o tm m (T 0) (M 0) d
        rw [e1, e2]; exact hd
      | succ i => exact h5 i o' (by simpa using hi)
end
end Go.Rx
