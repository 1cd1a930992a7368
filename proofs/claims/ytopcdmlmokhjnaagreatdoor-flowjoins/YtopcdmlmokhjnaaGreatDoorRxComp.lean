/-
  The executor's code, and the model's: all of it.
-/
import Derived.Test.YtopcdmlmokhjnaaGreatDoorRxCode
set_option linter.unusedVariables false
set_option linter.unusedSimpArgs false
set_option linter.unusedSectionVars false
namespace Go.Rx

/-- the marks among an activation's deferred calls -/
inductive DfR (ρ : Ren) : List Nat → List Deferred → Prop
  | nil : DfR ρ [] []
  | cons {d : Nat} {l : Loc} {df : List Nat} {ds : List Deferred} (h : ρ d = some l) (hd : DfR ρ df ds) : DfR ρ (d :: df) ({ target := .collected l.b, args := #[] } :: ds)
theorem DfR.mono {ρ ρ' : Ren} (hle : Ren.le ρ ρ') {df : List Nat} {ds : List Deferred} (h : DfR ρ df ds) : DfR ρ' df ds := by
  induction h with
  | nil => exact .nil
  | cons h _ ih => exact .cons (hle _ _ h) ih
/-- the round that an activation is -/
def RdR (ρ : Ren) : Option Nat → Option Nat → Prop
  | none, none => True
  | some l, some b => ∃ k, ρ l = some k ∧ k.b = b
  | _, _ => False
theorem RdR.mono {ρ ρ' : Ren} (hle : Ren.le ρ ρ') {rd rd' : Option Nat} (h : RdR ρ rd rd') : RdR ρ' rd rd' := by
  cases rd with
  | none => cases rd' <;> exact h
  | some l =>
    cases rd' with
    | none => exact h
    | some b => obtain ⟨k, h1, h2⟩ := h; exact ⟨k, hle _ _ h1, h2⟩
def exitOf : XE → Exit
  | .normal => .normal
  | .exit id => .exit id
  | .goto l => .goto l
  | .ret => .ret
def CG (E : Env) (P : Program) (nt : Nat) (rd : Option Nat) (c : Code) (tm : TM) (df : List Nat) (m : Mem) (e : XE) (tm' : TM) (df' : List Nat) (m' : Mem) : Prop :=
  ∀ (n : Nat) (ρ : Ren) (a : Act) (w : World) (rd' : Option Nat), Glob E ρ → TmR ρ nt tm a.tmps → DfR ρ df a.defers → Rel ρ m w → RdR ρ rd rd' → ∀ (Q : Exit → Act → World → Prop),
    (∀ ρ' a' w', Post ρ m w ρ' m' w' → TmR ρ' nt tm' a'.tmps → DfR ρ' df' a'.defers → Q (exitOf e) a' w') → c.wpIn (fence rd') n P Q a w

theorem xeNormal_some {e : XE} {y : R} {n : XE → R} {r : VM} (h : xeNormal e y n = some r) : (e = .normal ∧ y = some r) ∨ (e ≠ .normal ∧ n e = some r) := by
  cases e with
  | normal => exact .inl ⟨rfl, h⟩
  | exit id => exact .inr ⟨(by intro e; cases e), h⟩
  | goto l => exact .inr ⟨(by intro e; cases e), h⟩
  | ret => exact .inr ⟨(by intro e; cases e), h⟩
theorem then_of {e : XE} (h : e ≠ .normal) {K : Act → World → Prop} {Q : Exit → Act → World → Prop} {a : Act} {w : World} (hq : Q (exitOf e) a w) : Exit.then K Q (exitOf e) a w := by
  cases e with
  | normal => exact absurd rfl h
  | _ => exact hq
theorem jumpC_some {c : Code} {k : XE → R} {r : VM} (h : jumpC c k = some r) : ∃ e, k e = some r ∧ e ≠ .normal ∧ ∀ {F : Fence} {n : Nat} {P : Program} {Q : Exit → Act → World → Prop} {a : Act} {w : World}, Q (exitOf e) a w → c.wpIn F n P Q a w := by
  cases c with
  | ret => exact ⟨.ret, h, (by intro e; cases e), fun h => wpIn_ret h⟩
  | exit id => exact ⟨.exit id, h, (by intro e; cases e), fun h => wpIn_exit h⟩
  | goto l => exact ⟨.goto l, h, (by intro e; cases e), fun h => wpIn_goto h⟩
  | _ => exact nomatch (show (none : R) = some r from h)

section
variable {E : Env} {P : Program} {nt : Nat} (hE : EnvOK E P)
/-- what regions that draw their order are to be worth -/
def DrawOK (E : Env) (P : Program) (ih : Fs) : Prop := ∀ (nt : Nat) (id : Nat) (ops : Array Oper) (tm : TM) (m : Mem) (k : TM → Mem → R) (r : VM), (drawC E nt ops).f ih tm m k = some r → ∃ tm' m', k tm' m' = some r ∧ MemFr m m' ∧
  ∀ (rd : Option Nat) (n : Nat) (ρ : Ren) (a : Act) (w : World), Glob E ρ → TmR ρ nt tm a.tmps → Rel ρ m w → ∀ (Q : Exit → Act → World → Prop),
    (∀ ρ' a' w', Post ρ m w ρ' m' w' → TmR ρ' nt tm' a'.tmps → a'.defers = a.defers → Q .normal a' w') → (Code.region id ops true).wpIn (fence rd) n P Q a w

theorem post_alloc {ρ : Ren} {m : Mem} {w : World} (hr : Rel ρ m w) {o : Obj} {x : Bk} {lo : Nat} (hb : BkR (ρ.add m.nx ⟨w.heap.size, 0, none⟩) x ⟨w.heap.size, 0, none⟩ (some o)) :
    Post ρ m w (ρ.add m.nx ⟨w.heap.size, 0, none⟩) ⟨m.hp.set (some x) m.nx, Nat.succ m.nx, lo⟩ (w.alloc o) := post_new (ext := none) hr rfl hb
theorem put_mem {m : Mem} {b : Nat} {x : Bk} {k : Mem → R} {r : VM} (h : put m b x k = some r) : ∃ lo, k ⟨m.hp.set (some x) b, m.nx, lo⟩ = some r ∧ MemFr m ⟨m.hp.set (some x) b, m.nx, lo⟩ := by
  obtain ⟨lo, h, h1, h2, _⟩ := setLo_some h
  exact ⟨lo, h, Nat.le_refl _, h2, fun i _ h3 => Tr.get_set_ne _ _ (Nat.ne_of_lt (Nat.lt_of_lt_of_le h3 h1))⟩
/-- the function that is ranged over has returned -/
theorem rangeEnd_ok {l : Nat} {tm : TM} {df : List Nat} {m : Mem} {k : XE → TM → List Nat → Mem → R} {r : VM} (h : rangeEnd l tm df m k = some r) : ∃ e m', k e tm df m' = some r ∧ MemFr m m' ∧
    ∀ (F : Fence) (n : Nat) (ρ : Ren) (a' : Act) (w : World) (kl : Loc), Rel ρ m w → ρ l = some kl → ∀ (Q : Exit → Act → World → Prop), (∀ w', Post ρ m w ρ m' w' → Q (exitOf e) a' w') → ∀ v, rangePost F n P kl.b Q a' (.returned v) w := by
  obtain ⟨x, hx, h⟩ := orec_get h
  cases x with
  | loop st p tm1 nt1 ps as bd d =>
    have key : ∀ {m' : Mem} {e : XE}, st ≠ .busy → (∃ lo, m' = ⟨m.hp.set (some (.loop .exhausted p tm1 nt1 ps as bd d)) l, m.nx, lo⟩) → ((p = none ∧ e = .normal) ∨ ∃ c, p = some c ∧ ∀ {F : Fence} {n : Nat} {Q : Exit → Act → World → Prop} {a : Act} {w : World}, Q (exitOf e) a w → c.wpIn F n P Q a w) →
        ∀ (F : Fence) (n : Nat) (ρ : Ren) (a' : Act) (w : World) (kl : Loc), Rel ρ m w → ρ l = some kl → ∀ (Q : Exit → Act → World → Prop), (∀ w', Post ρ m w ρ m' w' → Q (exitOf e) a' w') → ∀ v, rangePost F n P kl.b Q a' (.returned v) w := by
      intro m' e hst hm' hp F n ρ a' w kl hr hl Q hq v
      obtain ⟨lo, rfl⟩ := hm'
      obtain ⟨fn, tmps, ld, hobj, htm, hld⟩ := hr.blk _ _ _ hx hl
      refine ⟨p, _, run_endLoop hobj hst, ?_⟩
      have hpost := post_put (lo := lo) (x' := .loop .exhausted p tm1 nt1 ps as bd d) (w' := w.putObj kl.b (.loop { state := .exhausted, pending := p, fn, tmps, params := ⟨ps⟩, assign := as, body := bd, defers := ld.b })) hr hx hl (by simp) (fun j => putObj_get w _ _ (lt_of_get hobj) _) ⟨fn, tmps, ld, rfl, htm, hld⟩
      rcases hp with ⟨rfl, rfl⟩ | ⟨c, rfl, hp⟩
      · exact hq _ hpost
      · exact hp (hq _ hpost)
    cases st with
    | busy => exact nomatch (show (none : R) = some r from h)
    | ready =>
      obtain ⟨lo, h, hfr⟩ := put_mem h
      cases p with
      | none => exact ⟨.normal, _, h, hfr, key (by intro e; cases e) ⟨lo, rfl⟩ (.inl ⟨rfl, rfl⟩)⟩
      | some c => obtain ⟨e, h, _, hw⟩ := jumpC_some (show jumpC c (fun e => k e tm df ⟨m.hp.set (some (.loop .exhausted (some c) tm1 nt1 ps as bd d)) l, m.nx, lo⟩) = some r from h); exact ⟨e, _, h, hfr, key (by intro e; cases e) ⟨lo, rfl⟩ (.inr ⟨c, rfl, fun h => hw h⟩)⟩
    | done =>
      obtain ⟨lo, h, hfr⟩ := put_mem h
      cases p with
      | none => exact ⟨.normal, _, h, hfr, key (by intro e; cases e) ⟨lo, rfl⟩ (.inl ⟨rfl, rfl⟩)⟩
      | some c => obtain ⟨e, h, _, hw⟩ := jumpC_some (show jumpC c (fun e => k e tm df ⟨m.hp.set (some (.loop .exhausted (some c) tm1 nt1 ps as bd d)) l, m.nx, lo⟩) = some r from h); exact ⟨e, _, h, hfr, key (by intro e; cases e) ⟨lo, rfl⟩ (.inr ⟨c, rfl, fun h => hw h⟩)⟩
    | exhausted =>
      obtain ⟨lo, h, hfr⟩ := put_mem h
      cases p with
      | none => exact ⟨.normal, _, h, hfr, key (by intro e; cases e) ⟨lo, rfl⟩ (.inl ⟨rfl, rfl⟩)⟩
      | some c => obtain ⟨e, h, _, hw⟩ := jumpC_some (show jumpC c (fun e => k e tm df ⟨m.hp.set (some (.loop .exhausted (some c) tm1 nt1 ps as bd d)) l, m.nx, lo⟩) = some r from h); exact ⟨e, _, h, hfr, key (by intro e; cases e) ⟨lo, rfl⟩ (.inr ⟨c, rfl, fun h => hw h⟩)⟩
  | _ => exact nomatch (show (none : R) = some r from h)
theorem rangeGo_ok {ih : Fs} (hF : FsOK E P ih) {fv : AV} {ps : List Tmp} {as bd : Code} {tm : TM} {df : List Nat} {m : Mem} {dl : Nat} {k : XE → TM → List Nat → Mem → R} {r : VM} (h : rangeGo nt fv ps as bd ih tm df m dl k = some r) :
    ∃ e m', k e tm df m' = some r ∧ MemFr m m' ∧ ∀ (rd' : Option Nat) (n : Nat) (ρ : Ren) (a' : Act) (w : World) (tmps : Array Value) (vf : Value) (ld : Loc) (fn : FuncId), Glob E ρ → TmR ρ nt tm tmps → Rel ρ m w → VR ρ fv vf → ρ dl = some ld → ∀ (Q : Exit → Act → World → Prop),
      (∀ ρ' w', Post ρ m w ρ' m' w' → Q (exitOf e) a' w') →
      ∃ g cl w1, vf = .func (.func g) #[] ⟨cl⟩ ∧ w1 = w.alloc (.loop { state := .ready, pending := none, fn, tmps, params := ⟨ps⟩, assign := as, body := bd, defers := ld.b }) ∧
        (callFunc g ⟨.func (.yield w.heap.size) #[] #[] :: cl⟩).run P w1 = .ok (.enter g ⟨.func (.yield w.heap.size) #[] #[] :: cl⟩) w1 ∧
        CallsIn (fence rd') (n - 1) P g ⟨.func (.yield w.heap.size) #[] #[] :: cl⟩ w1 (rangePost (fence rd') n P w.heap.size Q a') := by
  rcases avFn_some (show avFn fv (fun g caps => new m (.loop .ready none tm nt ps as bd dl) fun m' => ih.call g (.cons (.yld m.nx) caps) m' fun _ m'' => rangeEnd m.nx tm df m'' k) (fun _ => none) = some r from h) with ⟨g, caps, rfl, h1⟩ | ⟨_, _, h1⟩
  · obtain ⟨v, m2, h2, hg, hfr⟩ := hF.call (show ih.call g (.cons (.yld m.nx) caps) ⟨m.hp.set (some (.loop .ready none tm nt ps as bd dl)) m.nx, Nat.succ m.nx, m.lo⟩ (fun _ m'' => rangeEnd m.nx tm df m'' k) = some r from h1)
    obtain ⟨e, m3, h3, hfr2, hend⟩ := rangeEnd_ok (P := P) h2
    have hfr0 : MemFr m ⟨m.hp.set (some (.loop .ready none tm nt ps as bd dl)) m.nx, Nat.succ m.nx, m.lo⟩ := (new_fr (b := .loop .ready none tm nt ps as bd dl) fun k => rfl).1
    refine ⟨e, m3, h3, hfr0.trans (hfr.trans hfr2), fun rd' n ρ a' w tmps vf ld fn hG htm hr hv hld Q hq => ?_⟩
    obtain ⟨cl, hcl, rfl⟩ := vr_fn hv
    let o : Obj := .loop { state := .ready, pending := none, fn, tmps, params := ⟨ps⟩, assign := as, body := bd, defers := ld.b }
    have hle := Ren.le_add (l := ⟨w.heap.size, 0, none⟩) hr.nx_none
    have p1 := post_alloc (lo := m.lo) hr (o := o) (x := .loop .ready none tm nt ps as bd dl) ⟨fn, tmps, ld, rfl, htm.mono hle, hle _ _ hld⟩
    refine ⟨g, cl, w.alloc o, rfl, rfl, ?_⟩
    have hargs : LR (ρ.add m.nx ⟨w.heap.size, 0, none⟩) (.cons (.yld m.nx) caps) (.func (.yield w.heap.size) #[] #[] :: cl) := .cons (VR.yld (l := ⟨w.heap.size, 0, none⟩) Ren.add_same) (hcl.mono hle)
    rcases hg _ (w.alloc o) _ (hG.mono hle) hargs p1.rel with ⟨_, _, _, _, _, _, hno⟩ | ⟨hc1, hc2⟩
    · exact absurd rfl (hno _ _)
    · refine ⟨hc1, fence_calls (callsIn_mono' (hc2 (n - 1)) ?_)⟩
      rintro e' w' ⟨ρ2, v', rfl, p2, _⟩
      have hl : ρ2 m.nx = some ⟨w.heap.size, 0, none⟩ := p2.le _ _ Ren.add_same
      exact hend (fence rd') n ρ2 a' w' ⟨w.heap.size, 0, none⟩ p2.rel hl Q (fun w'' p3 => hq ρ2 w'' (Post.trans hr (Post.trans hr p1 p2) p3)) v'
  · exact nomatch h1
include hE
theorem comp_ok {ih : Fs} (hF : FsOK E P ih) (hD : DrawOK E P ih) (c : Code) : ∀ {rd : Option Nat} {tm : TM} {df : List Nat} {m : Mem} {k : XE → TM → List Nat → Mem → R} {r : VM}, (comp E nt c).f ih rd tm df m k = some r →
    ∃ e tm' df' m', k e tm' df' m' = some r ∧ MemFr m m' ∧ CG E P nt rd c tm df m e tm' df' m' := by
  induction c with
  | skip =>
    intro rd tm df m k r h
    exact ⟨_, _, _, _, h, MemFr.refl m, fun n ρ a w rd' hG htm hdf hr hrd Q hq => wpIn_skip (hq ρ a w (Post.refl hr) htm hdf)⟩
  | region id ops d =>
    intro rd tm df m k r h
    cases d with
    | true =>
      have h1 : (drawC E nt ops).f ih tm m (fun tm' m' => k .normal tm' df m') = some r := by
        have e : comp E nt (.region id ops true) = ofOp (drawC E nt ops) := rfl
        rw [e] at h
        generalize drawC E nt ops = c at h ⊢
        cases c; exact h
      obtain ⟨tm', m', h2, hfr, hg⟩ := hD nt id ops tm m _ r h1
      refine ⟨.normal, tm', df, m', h2, hfr, fun n ρ a w rd' hG htm hdf hr hrd Q hq => ?_⟩
      exact hg rd' n ρ a w hG htm hr Q fun ρ' a' w' hp ht hd => hq ρ' a' w' hp ht (by rw [hd]; exact hdf.mono hp.le)
    | false =>
      have h1 : (regC E nt ops.toList ops.toList).f ih tm m (fun tm' m' => k .normal tm' df m') = some r := by
        have e : comp E nt (.region id ops false) = ofOp (regC E nt ops.toList ops.toList) := rfl
        rw [e] at h
        generalize regC E nt ops.toList ops.toList = c at h ⊢
        cases c; exact h
      obtain ⟨tm', m', h2, hfr, hg⟩ := regC_ok hE hF ops.toList h1
      refine ⟨.normal, tm', df, m', h2, hfr, fun n ρ a w rd' hG htm hdf hr hrd Q hq => ?_⟩
      exact wpIn_region_list (hg rd' n ρ a w hG htm hr Q fun ρ' a' w' hp ht hd => hq ρ' a' w' hp ht (by rw [hd]; exact hdf.mono hp.le))
  | seq x y ihx ihy =>
    intro rd tm df m k r h
    obtain ⟨e, tm1, df1, m1, h1, f1, g1⟩ := ihx (show (comp E nt x).f ih rd tm df m (fun e tm' df' m' => xeNormal e ((comp E nt y).f ih rd tm' df' m' k) fun e => k e tm' df' m') = some r from h)
    rcases xeNormal_some h1 with ⟨rfl, h2⟩ | ⟨hne, h2⟩
    · obtain ⟨e2, tm2, df2, m2, h3, f2, g2⟩ := ihy h2
      refine ⟨e2, tm2, df2, m2, h3, f1.trans f2, fun n ρ a w rd' hG htm hdf hr hrd Q hq => wpIn_seq ?_⟩
      refine g1 n ρ a w rd' hG htm hdf hr hrd _ fun ρ1 a1 w1 hp1 ht1 hd1 => ?_
      exact g2 n ρ1 a1 w1 rd' (hG.mono hp1.le) ht1 hd1 hp1.rel (hrd.mono hp1.le) Q fun ρ2 a2 w2 hp2 ht2 hd2 => hq ρ2 a2 w2 (Post.trans hr hp1 hp2) ht2 hd2
    · refine ⟨e, tm1, df1, m1, h2, f1, fun n ρ a w rd' hG htm hdf hr hrd Q hq => wpIn_seq ?_⟩
      exact g1 n ρ a w rd' hG htm hdf hr hrd _ fun ρ1 a1 w1 hp1 ht1 hd1 => then_of hne (hq ρ1 a1 w1 hp1 ht1 hd1)
  | cond x a b iha ihb =>
    intro rd tm df m k r h
    have e0 : comp E nt (.cond x a b) = condC E nt x (comp E nt a) (comp E nt b) := rfl
    rw [e0] at h
    unfold condC at h
    cases hx : opdC E nt x with
    | none => rw [hx] at h; exact nomatch (show (none : R) = some r from h)
    | some p =>
      rw [hx] at h
      obtain ⟨t, e, h⟩ := avBool_some (show avBool (p.f tm) (fun t => br t ((comp E nt a).f ih rd tm df m k) ((comp E nt b).f ih rd tm df m k)) = some r from h)
      have hb : ∀ (ρ : Ren) (act : Act), Glob E ρ → TmR ρ nt tm act.tmps → act.eval x = .bool t := fun ρ act hG htm => by
        have := opdC_ok hx hG htm
        rw [e] at this
        exact vr_bool this
      cases t with
      | true =>
        obtain ⟨e1, tm1, df1, m1, h1, f1, g1⟩ := iha h
        exact ⟨e1, tm1, df1, m1, h1, f1, fun n ρ act w rd' hG htm hdf hr hrd Q hq => wpIn_cond_true (hb ρ act hG htm) (g1 n ρ act w rd' hG htm hdf hr hrd Q hq)⟩
      | false =>
        obtain ⟨e1, tm1, df1, m1, h1, f1, g1⟩ := ihb h
        exact ⟨e1, tm1, df1, m1, h1, f1, fun n ρ act w rd' hG htm hdf hr hrd Q hq => wpIn_cond_false (hb ρ act hG htm) (g1 n ρ act w rd' hG htm hdf hr hrd Q hq)⟩
  | block id x ihx =>
    intro rd tm df m k r h
    obtain ⟨e, tm1, df1, m1, h1, f1, g1⟩ := ihx (show (comp E nt x).f ih rd tm df m (fun e tm' df' m' =>
      XE.rec (motive := fun _ => R) (k .normal tm' df' m') (fun id' => br (Nat.beq id' id) (k .normal tm' df' m') (k (.exit id') tm' df' m')) (fun l => k (.goto l) tm' df' m') (k .ret tm' df' m') e) = some r from h)
    cases e with
    | normal => exact ⟨.normal, tm1, df1, m1, h1, f1, fun n ρ a w rd' hG htm hdf hr hrd Q hq => wpIn_block (g1 n ρ a w rd' hG htm hdf hr hrd _ fun ρ1 a1 w1 hp1 ht1 hd1 => hq ρ1 a1 w1 hp1 ht1 hd1)⟩
    | ret => exact ⟨.ret, tm1, df1, m1, h1, f1, fun n ρ a w rd' hG htm hdf hr hrd Q hq => wpIn_block (g1 n ρ a w rd' hG htm hdf hr hrd _ fun ρ1 a1 w1 hp1 ht1 hd1 => hq ρ1 a1 w1 hp1 ht1 hd1)⟩
    | goto l => exact ⟨.goto l, tm1, df1, m1, h1, f1, fun n ρ a w rd' hG htm hdf hr hrd Q hq => wpIn_block (g1 n ρ a w rd' hG htm hdf hr hrd _ fun ρ1 a1 w1 hp1 ht1 hd1 => hq ρ1 a1 w1 hp1 ht1 hd1)⟩
    | exit id' =>
      rcases br_some (show br (Nat.beq id' id) _ _ = some r from h1) with ⟨he, h2⟩ | ⟨he, h2⟩
      · have he := nbt he
        refine ⟨.normal, tm1, df1, m1, h2, f1, fun n ρ a w rd' hG htm hdf hr hrd Q hq => wpIn_block (g1 n ρ a w rd' hG htm hdf hr hrd _ fun ρ1 a1 w1 hp1 ht1 hd1 => ?_)⟩
        show (if id' = id then Q .normal a1 w1 else Q (.exit id') a1 w1)
        rw [if_pos he]; exact hq ρ1 a1 w1 hp1 ht1 hd1
      · have hne : id' ≠ id := by intro e; rw [e, Nat.beq_refl] at he; cases he
        refine ⟨.exit id', tm1, df1, m1, h2, f1, fun n ρ a w rd' hG htm hdf hr hrd Q hq => wpIn_block (g1 n ρ a w rd' hG htm hdf hr hrd _ fun ρ1 a1 w1 hp1 ht1 hd1 => ?_)⟩
        show (if id' = id then Q .normal a1 w1 else Q (.exit id') a1 w1)
        rw [if_neg hne]; exact hq ρ1 a1 w1 hp1 ht1 hd1
  | loop x ihx =>
    intro rd tm df m k r h
    let go : Nat → TM → List Nat → Mem → R := fun f => nrec (β := TM → List Nat → Mem → R) (fun _ _ _ => none) (fun _ again tm df m => (comp E nt x).f ih rd tm df m fun e tm' df' m' => xeNormal e (again tm' df' m') fun e => k e tm' df' m') f
    have key : ∀ (f : Nat) {tm : TM} {df : List Nat} {m : Mem}, go f tm df m = some r → ∃ e tm' df' m', k e tm' df' m' = some r ∧ MemFr m m' ∧
        ∀ (n : Nat) (ρ : Ren) (a : Act) (w : World) (rd' : Option Nat), Glob E ρ → TmR ρ nt tm a.tmps → DfR ρ df a.defers → Rel ρ m w → RdR ρ rd rd' → ∀ (Q : Exit → Act → World → Prop),
          (∀ ρ' a' w', Post ρ m w ρ' m' w' → TmR ρ' nt tm' a'.tmps → DfR ρ' df' a'.defers → Q (exitOf e) a' w') → Code.roundsIn (fence rd') n P x Q f a w := by
      intro f
      induction f with
      | zero => intro tm df m h; exact nomatch (show (none : R) = some r from h)
      | succ f ihf =>
        intro tm df m h
        obtain ⟨e, tm1, df1, m1, h1, f1, g1⟩ := ihx (show (comp E nt x).f ih rd tm df m (fun e tm' df' m' => xeNormal e (go f tm' df' m') fun e => k e tm' df' m') = some r from h)
        rcases xeNormal_some h1 with ⟨rfl, h2⟩ | ⟨hne, h2⟩
        · obtain ⟨e2, tm2, df2, m2, h3, f2, g2⟩ := ihf h2
          refine ⟨e2, tm2, df2, m2, h3, f1.trans f2, fun n ρ a w rd' hG htm hdf hr hrd Q hq => ?_⟩
          rw [roundsIn_succ]
          refine g1 n ρ a w rd' hG htm hdf hr hrd _ fun ρ1 a1 w1 hp1 ht1 hd1 => ?_
          exact g2 n ρ1 a1 w1 rd' (hG.mono hp1.le) ht1 hd1 hp1.rel (hrd.mono hp1.le) Q fun ρ2 a2 w2 hp2 ht2 hd2 => hq ρ2 a2 w2 (Post.trans hr hp1 hp2) ht2 hd2
        · refine ⟨e, tm1, df1, m1, h2, f1, fun n ρ a w rd' hG htm hdf hr hrd Q hq => ?_⟩
          rw [roundsIn_succ]
          exact g1 n ρ a w rd' hG htm hdf hr hrd _ fun ρ1 a1 w1 hp1 ht1 hd1 => then_of hne (hq ρ1 a1 w1 hp1 ht1 hd1)
    have e0 : comp E nt (.loop x) = loopC (comp E nt x) := rfl
    rw [e0] at h
    unfold loopC at h
    generalize LF = N at h
    obtain ⟨e, tm1, df1, m1, h1, f1, g1⟩ := key N (show go N tm df m = some r from h)
    exact ⟨e, tm1, df1, m1, h1, f1, fun n ρ a w rd' hG htm hdf hr hrd Q hq => wpIn_loop_rounds N (g1 n ρ a w rd' hG htm hdf hr hrd Q hq)⟩
  | rangeFunc f ps as bd iha ihb =>
    intro rd tm df m k r h
    have e0 : comp E nt (.rangeFunc f ps as bd) = rangeC E nt f ps.toList as bd := rfl
    rw [e0] at h
    unfold rangeC at h
    cases hx : opdC E nt f with
    | none => rw [hx] at h; exact nomatch (show (none : R) = some r from h)
    | some p =>
      rw [hx] at h
      have model : ∀ (rd' : Option Nat) (n : Nat) (a : Act) (w : World) (mk : List Deferred) (Q : Exit → Act → World → Prop),
          (∀ fn, ∃ (l : Nat) (w1 : World) (g : FuncId) (cl : List Value), (Instr.enterLoop fn a.tmps ps as bd rd').run P w = .ok (l, mk) w1 ∧ a.eval f = .func (.func g) #[] ⟨cl⟩ ∧
            (callFunc g ⟨.func (.yield l) #[] #[] :: cl⟩).run P w1 = .ok (.enter g ⟨.func (.yield l) #[] #[] :: cl⟩) w1 ∧
            CallsIn (fence rd') (n - 1) P g ⟨.func (.yield l) #[] #[] :: cl⟩ w1 (rangePost (fence rd') n P l Q { a with defers := mk ++ a.defers })) →
          (Code.rangeFunc f ps as bd).wpIn (fence rd') n P Q a w := by
        intro rd' n a w mk Q hh
        refine wpIn_rangeFunc fun fn _ => ?_
        obtain ⟨l, w1, g, cl, k1, k2, k3, k4⟩ := hh fn
        refine ⟨l, mk, w1, { target := .fn (.func g) ⟨cl⟩, args := #[.func (.yield l) #[] #[]] }, w1, g, ⟨.func (.yield l) #[] #[] :: cl⟩, w1, by rw [fence_round_eq]; exact k1, ?_, fun f' _ => fence_fn rd' f', ?_, fence_depth rd' n, k4⟩
        · simp only [resolve, rangeCall, k2, Deferred.ofValue, Sem.run_pure, Array.empty_append]
          simp [Act.eval]
        · have : (#[Value.func (.yield l) #[] #[]] ++ (⟨cl⟩ : Array Value)) = ⟨.func (.yield l) #[] #[] :: cl⟩ := by apply Array.ext'; simp
          simp only [invoke, this, k3]
      cases rd with
      | none =>
        obtain ⟨e, m', h1, hfr, hg⟩ := rangeGo_ok hF (show rangeGo nt (p.f tm) ps.toList as bd ih tm (m.nx :: df) ⟨m.hp.set (some .defd) m.nx, Nat.succ m.nx, m.lo⟩ m.nx k = some r from h)
        refine ⟨e, tm, m.nx :: df, m', h1, (new_fr (m := m) (b := .defd) fun k => rfl).1.trans hfr, fun n ρ a w rd' hG htm hdf hr hrd Q hq => ?_⟩
        have hrd' : rd' = none := by cases rd' with | none => rfl | some b => exact hrd.elim
        subst hrd'
        have hle := Ren.le_add (l := ⟨w.heap.size, 0, none⟩) hr.nx_none
        have p1 := post_alloc (lo := m.lo) hr (o := .deferred (some [])) (x := .defd) rfl
        refine model none n a w [{ target := .collected w.heap.size, args := #[] }] Q fun fn => ?_
        obtain ⟨g, cl, w1, k1, rfl, k3, k4⟩ := hg none n (ρ.add m.nx ⟨w.heap.size, 0, none⟩) { a with defers := [{ target := .collected w.heap.size, args := #[] }] ++ a.defers } (w.alloc (.deferred (some []))) a.tmps (a.eval f) ⟨w.heap.size, 0, none⟩ fn
          (hG.mono hle) (htm.mono hle) p1.rel ((opdC_ok hx hG htm).mono hle) Ren.add_same Q (fun ρ' w' p2 => hq ρ' _ w' (Post.trans hr p1 p2) (htm.mono (Ren.le_trans hle p2.le)) (.cons (l := ⟨w.heap.size, 0, none⟩) (p2.le _ _ Ren.add_same) (hdf.mono (Ren.le_trans hle p2.le))))
        have hsz : (w.alloc (.deferred (some []))).heap.size = w.heap.size + 1 := World.size_alloc w _
        rw [hsz] at k3 k4
        exact ⟨w.heap.size + 1, _, g, cl, run_enterLoop_outer fn a.tmps ps as bd, k1, k3, k4⟩
      | some l0 =>
        obtain ⟨x, hx0, h⟩ := orec_get (show orec none _ (m.hp.get l0) = some r from h)
        cases x with
        | loop st p0 tm0' nt0 ps0 as0 bd0 dl =>
          obtain ⟨e, m', h1, hfr, hg⟩ := rangeGo_ok hF (show rangeGo nt (p.f tm) ps.toList as bd ih tm df m dl k = some r from h)
          refine ⟨e, tm, df, m', h1, hfr, fun n ρ a w rd' hG htm hdf hr hrd Q hq => ?_⟩
          cases rd' with
          | none => exact hrd.elim
          | some b =>
            obtain ⟨k0, hk0, rfl⟩ := hrd
            obtain ⟨fn0, tmps0, ld, hobj, _, hld⟩ := hr.blk _ _ _ hx0 hk0
            refine model (some k0.b) n a w [] Q fun fn => ?_
            obtain ⟨g, cl, w1, k1, rfl, k3, k4⟩ := hg (some k0.b) n ρ { a with defers := [] ++ a.defers } w a.tmps (a.eval f) ld fn hG htm hr (opdC_ok hx hG htm) hld Q
              (fun ρ' w' p2 => hq ρ' _ w' p2 (htm.mono p2.le) (hdf.mono p2.le))
            refine ⟨w.heap.size, _, g, cl, ?_, k1, k3, k4⟩
            simp only [Instr.enterLoop, Sem.run_bind, run_getLoop hobj, Result.andThen_ok, Sem.run_pure, run_newObj]
            rfl
        | _ => exact nomatch (show (none : R) = some r from h)
  | exit id =>
    intro rd tm df m k r h
    exact ⟨_, _, _, _, h, MemFr.refl m, fun n ρ a w rd' hG htm hdf hr hrd Q hq => wpIn_exit (hq ρ a w (Post.refl hr) htm hdf)⟩
  | scope x ihx =>
    intro rd tm df m k r h
    obtain ⟨e, tm1, df1, m1, h1, f1, g1⟩ := ihx (show (comp E nt x).f ih rd tm df m (fun e tm' df' m' =>
      XE.rec (motive := fun _ => R) (k .normal tm' df' m') (fun id' => k (.exit id') tm' df' m') (fun _ => none) (k .ret tm' df' m') e) = some r from h)
    cases e with
    | normal => exact ⟨.normal, tm1, df1, m1, h1, f1, fun n ρ a w rd' hG htm hdf hr hrd Q hq => wpIn_scope_straight (g1 n ρ a w rd' hG htm hdf hr hrd _ fun ρ1 a1 w1 hp1 ht1 hd1 => hq ρ1 a1 w1 hp1 ht1 hd1)⟩
    | ret => exact ⟨.ret, tm1, df1, m1, h1, f1, fun n ρ a w rd' hG htm hdf hr hrd Q hq => wpIn_scope_straight (g1 n ρ a w rd' hG htm hdf hr hrd _ fun ρ1 a1 w1 hp1 ht1 hd1 => hq ρ1 a1 w1 hp1 ht1 hd1)⟩
    | exit id => exact ⟨.exit id, tm1, df1, m1, h1, f1, fun n ρ a w rd' hG htm hdf hr hrd Q hq => wpIn_scope_straight (g1 n ρ a w rd' hG htm hdf hr hrd _ fun ρ1 a1 w1 hp1 ht1 hd1 => hq ρ1 a1 w1 hp1 ht1 hd1)⟩
    | goto l => exact nomatch (show (none : R) = some r from h1)
  | label l =>
    intro rd tm df m k r h
    exact ⟨_, _, _, _, h, MemFr.refl m, fun n ρ a w rd' hG htm hdf hr hrd Q hq => wpIn_label (hq ρ a w (Post.refl hr) htm hdf)⟩
  | goto l =>
    intro rd tm df m k r h
    exact ⟨_, _, _, _, h, MemFr.refl m, fun n ρ a w rd' hG htm hdf hr hrd Q hq => wpIn_goto (hq ρ a w (Post.refl hr) htm hdf)⟩
  | ret =>
    intro rd tm df m k r h
    exact ⟨_, _, _, _, h, MemFr.refl m, fun n ρ a w rd' hG htm hdf hr hrd Q hq => wpIn_ret (hq ρ a w (Post.refl hr) htm hdf)⟩
  | _ =>
    intro rd tm df m k r h
    exact nomatch (show (none : R) = some r from h)
end
end Go.Rx
