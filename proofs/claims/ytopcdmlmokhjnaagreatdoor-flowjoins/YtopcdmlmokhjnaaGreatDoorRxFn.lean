/-
  The executor's functions and rounds, and the model's.
-/
import Derived.Test.YtopcdmlmokhjnaaGreatDoorRxComp
set_option linter.unusedVariables false
set_option linter.unusedSimpArgs false
set_option linter.unusedSectionVars false
namespace Go.Rx

/-! ### Arguments, results, marks -/
theorem argsC_ok : ∀ (n : Nat) {l : AV} {tm : TM} {i : Nat} {k : TM → R} {r : VM}, argsC n l tm i k = some r → i + lenA l ≤ 512 → ∃ tm', k tm' = some r ∧ ∀ (ρ : Ren) (vs : List Value), LR ρ l vs → ∀ t, t < 512 →
    ((t < i ∨ i + vs.length ≤ t) → getT tm' t = getT tm t) ∧ ∀ j v, vs[j]? = some v → t = i + j → VR ρ (getT tm' t) v := by
  intro n
  induction n with
  | zero => intro l tm i k r h; exact nomatch (show (none : R) = some r from h)
  | succ n ih =>
    intro l tm i k r h hlen
    rcases avList_some (show avList l (k tm) (fun h t => (putC i).f tm h fun tm' => argsC n t tm' (Nat.succ i) k) = some r from h) with ⟨rfl, h1⟩ | ⟨x, t, rfl, h1⟩
    · refine ⟨tm, h1, fun ρ vs hl t ht => ?_⟩
      cases hl
      exact ⟨fun _ => rfl, fun j v hj => by cases hj⟩
    · have hl1 : i + (lenA t + 1) ≤ 512 := hlen
      have hi : i < 512 := by omega
      rw [putC_f hi] at h1
      obtain ⟨tm', h2, h3⟩ := ih h1 (by omega)
      refine ⟨tm', h2, fun ρ vs hl s hs => ?_⟩
      cases hl with
      | cons hv hl =>
        rename_i v vs
        obtain ⟨h4, h5⟩ := h3 ρ vs hl s hs
        refine ⟨fun hor => ?_, fun j u hj he => ?_⟩
        · have hor : s < i ∨ i + (vs.length + 1) ≤ s := hor
          rw [h4 (by omega), getT_setT hi hs, if_neg (by omega)]
        · cases j with
          | zero =>
            have hj : v = u := by simpa using hj
            subst hj
            have he : s = i := he
            subst he
            rw [h4 (by omega), getT_setT hi hs, if_pos rfl]
            exact hv
          | succ j => exact h5 j u (by simpa using hj) (by omega)
theorem tm_start {ρ : Ren} {nt : Nat} {tm : TM} {vs : List Value} (hle : vs.length ≤ nt)
    (h : ∀ t, t < 512 → ((t < 0 ∨ 0 + vs.length ≤ t) → getT tm t = getT tm0 t) ∧ ∀ j v, vs[j]? = some v → t = 0 + j → VR ρ (getT tm t) v) :
    TmR ρ nt tm ((⟨vs⟩ : Array Value) ++ Array.replicate (nt - (⟨vs⟩ : Array Value).size) undef) := by
  refine ⟨by simp; omega, fun t h1 h2 => ?_⟩
  obtain ⟨h3, h4⟩ := h t h2
  by_cases ht : t < vs.length
  · have e : (((⟨vs⟩ : Array Value) ++ Array.replicate (nt - (⟨vs⟩ : Array Value).size) undef).getD t undef) = vs[t] := by
      simp [Array.getD, ht, Array.getElem_append]
      intro h; omega
    rw [e]
    exact h4 t _ (List.getElem?_eq_getElem ht) (by omega)
  · have e : (((⟨vs⟩ : Array Value) ++ Array.replicate (nt - (⟨vs⟩ : Array Value).size) undef).getD t undef) = undef := by
      simp [Array.getD, Array.getElem_append]
      intro h h'; omega
    rw [e, h3 (by omega), getT_tm0 h2]
    exact .oth _ (by intro cs e; cases e)
section
variable {E : Env} {P : Program} {nt : Nat} (hE : EnvOK E P)
/-- the model's reading of a result -/
def resM (tmps : Array Value) : ResultVar → Sem Value
  | .tmp t => pure (tmps.getD t undef)
  | .cell a t => do loadVar t (← asAddr (tmps.getD a undef))
include hE
theorem resC_ok : ∀ (rs : List ResultVar) {tm : TM} {m : Mem} {k : AV → R} {r : VM}, (resC E nt rs).f tm m k = some r → ∃ vs, k vs = some r ∧
    ∀ (ρ : Ren) (tmps : Array Value) (w : World), Glob E ρ → TmR ρ nt tm tmps → Rel ρ m w → ∃ l, LR ρ vs l ∧ l.length = rs.length ∧ (rs.mapM (resM tmps)).run P w = .ok l w := by
  intro rs
  induction rs with
  | nil =>
    intro tm m k r h
    exact ⟨.nl, h, fun ρ tmps w _ _ _ => ⟨[], .nl, rfl, by simp⟩⟩
  | cons x rs ih =>
    intro tm m k r h
    cases x with
    | tmp t =>
      have e0 : resC E nt (.tmp t :: rs) = orec ⟨fun _ _ _ => none⟩ (fun (x : Opd) => ⟨fun tm m k => (resC E nt rs).f tm m fun l => k (.cons (x.f tm) l)⟩) (opdC E nt (.tmp t)) := rfl
      rw [e0] at h
      cases hx : opdC E nt (.tmp t) with
      | none => rw [hx] at h; exact nomatch (show (none : R) = some r from h)
      | some p =>
        rw [hx] at h
        obtain ⟨vs, h1, h2⟩ := ih (show (resC E nt rs).f tm m (fun l => k (.cons (p.f tm) l)) = some r from h)
        refine ⟨_, h1, fun ρ tmps w hG htm hr => ?_⟩
        obtain ⟨l, hl, hlen, hrun⟩ := h2 ρ tmps w hG htm hr
        have hv := opdC_ok (a := ⟨tmps, []⟩) hx hG htm
        refine ⟨_ :: l, .cons hv hl, by simp [hlen], ?_⟩
        simp only [List.mapM_cons, Sem.run_bind, resM, Sem.run_pure, Result.andThen_ok, hrun]
        rfl
    | cell t ty' =>
      have e0 : resC E nt (.cell t ty' :: rs) = orec ⟨fun _ _ _ => none⟩ (fun (x : Opd) => orec ⟨fun _ _ _ => none⟩ (fun s => ⟨fun tm m k => loadC s m (x.f tm) fun v => (resC E nt rs).f tm m fun l => k (.cons v l)⟩) (shape E ty')) (opdC E nt (.tmp t)) := rfl
      rw [e0] at h
      cases hx : opdC E nt (.tmp t) with
      | none => rw [hx] at h; exact nomatch (show (none : R) = some r from h)
      | some p =>
        rw [hx] at h
        cases hs : shape E ty' with
        | none => rw [hs] at h; exact nomatch (show (none : R) = some r from h)
        | some s =>
          rw [hs] at h
          obtain ⟨v, hv, h⟩ := yl_loadC m s (p.f tm) _ _ (show loadC s m (p.f tm) (fun v => (resC E nt rs).f tm m fun l => k (.cons v l)) = some r from h)
          obtain ⟨vs, h1, h2⟩ := ih h
          refine ⟨_, h1, fun ρ tmps w hG htm hr => ?_⟩
          obtain ⟨l, hl, hlen, hrun⟩ := h2 ρ tmps w hG htm hr
          have hp := opdC_ok (a := ⟨tmps, []⟩) hx hG htm
          obtain ⟨b, i, e, h3⟩ := avPtr_some (show avPtr (p.f tm) _ = some (VM.mk v ⟨.e, 0, 0⟩) from hv pv)
          rw [e] at hp
          obtain ⟨kl, hkl, hpv⟩ := vr_ptr hp
          have hpv : tmps.getD t undef = .pointer (some ⟨kl.b, kl.o + i, none⟩) := hpv
          have hload : ∃ v', (loadVar ty' ⟨kl.b, kl.o + i, none⟩).run P w = .ok v' w ∧ VR ρ v v' := by
            cases s with
            | one =>
              obtain ⟨av, v', hv', _, hc, hk⟩ := rd1_some hr hkl h3
              have := pv_inj hk; subst this
              exact ⟨v', run_loadVar_one (shape_one hE w hs) hc, hv'⟩
            | many n =>
              obtain ⟨g1, g2⟩ := shape_many hE w hs
              obtain ⟨cs, xs, hcs, hxlen, hone, hc, hk⟩ := rd_some hr hkl h3
              have := pv_inj hk; subst this
              exact ⟨.agg ⟨xs⟩, run_loadVar_many g1 g2 hxlen hc, .agg hcs hone⟩
          obtain ⟨v', hl', hv'⟩ := hload
          refine ⟨v' :: l, .cons hv' hl, by simp [hlen], ?_⟩
          have hrm : (resM tmps (.cell t ty')).run P w = .ok v' w := by
            simp only [resM, hpv, asAddr, Sem.run_bind, Sem.run_pure, Result.andThen_ok, hl']
          simp only [List.mapM_cons, Sem.run_bind, hrm, Sem.run_pure, Result.andThen_ok, hrun]
omit hE in
/-- a block given up, whatever memory does with it -/
theorem post_drop {ρ : Ren} {m : Mem} {w w' : World} (h : Rel ρ m w) {i : Nat} {x : Bk} {l : Loc} {o : Obj} {lo : Nat} (hx : m.hp.get i = some x) (hl : ρ i = some l) (hs : w'.heap.size = w.heap.size)
    (hw : ∀ j, w'.heap[j]? = if j = l.b then some o else w.heap[j]?) (hio : w'.os = w.os ∧ w'.output = w.output := by exact ⟨rfl, rfl⟩) : Post ρ m w ρ ⟨m.hp.set none i, m.nx, lo⟩ w' := by
  refine ⟨Ren.le_refl _, fun j k hj hn => (by rw [hj] at hn; cases hn), ⟨?_, ?_, ?_⟩, Nat.le_refl _, ?_, ?_, ?_, by rw [hs]; exact Nat.le_refl _, hio⟩
  · intro j y k hy hk
    by_cases e : j = i
    · subst e; simp only [Tr.get_set_same] at hy; cases hy
    · simp only [Tr.get_set_ne _ _ e] at hy
      rw [hw, if_neg]
      · exact h.blk j y k hy hk
      · intro eb; exact e (h.inj j i y x k l hy hx hk hl eb)
  · intro j j' y y' k k' hy hy' hk hk' e
    by_cases ej : j = i
    · rw [ej] at hy; simp only [Tr.get_set_same] at hy; cases hy
    · by_cases ej' : j' = i
      · rw [ej'] at hy'; simp only [Tr.get_set_same] at hy'; cases hy'
      · simp only [Tr.get_set_ne _ _ ej] at hy
        simp only [Tr.get_set_ne _ _ ej'] at hy'
        exact h.inj j j' y y' k k' hy hy' hk hk' e
  · intro j k hk; rw [hs]; exact h.lt j k hk
  · intro j hj hn
    exact Tr.get_set_ne _ _ (by intro e; rw [e, hl] at hn; cases hn)
  · intro j hj hd
    simp only [Tr.get_set_ne _ _ (show j ≠ i by intro e; rw [e, hx] at hd; cases hd)]; exact hd
  · intro b hb' hf
    rw [hw, if_neg]
    intro e; exact hf i x l hx hl e.symm
omit hE in
theorem marks_ok : ∀ (df : List Nat) {m : Mem} {k : Mem → R} {r : VM}, marks df m k = some r → ∃ m', k m' = some r ∧ MemFr m m' ∧ ∀ (F : Fence) (n : Nat) (fn : Func) (tmps : Array Value) (R' : Ending → World → Prop) (ρ : Ren) (ds : List Deferred) (w : World),
    DfR ρ df ds → Rel ρ m w → (∀ w', Post ρ m w ρ m' w' → LeavesIn F n P fn tmps R' [] .returning w') → LeavesInM F n P fn tmps R' ds .returning w := by
  intro df
  induction df with
  | nil =>
    intro m k r h
    refine ⟨m, h, MemFr.refl m, fun F n fn tmps R' ρ ds w hd hr hq => ?_⟩
    cases hd
    exact hq w (Post.refl hr)
  | cons d df ih =>
    intro m k r h
    obtain ⟨x, hx, h⟩ := orec_get (show orec none (fun b => match b with | Bk.defd => kill m d fun m' => marks df m' k | _ => none) (m.hp.get d) = some r from h)
    cases x with
    | defd =>
      obtain ⟨lo, h, hl1, hl2, _⟩ := setLo_some (show setLo m d (m.hp.set none d) (fun m' => marks df m' k) = some r from h)
      obtain ⟨m', h1, hfr, h2⟩ := ih h
      have hfr0 : MemFr m ⟨m.hp.set none d, m.nx, lo⟩ := ⟨Nat.le_refl _, hl2, fun i _ h3 => Tr.get_set_ne _ _ (Nat.ne_of_lt (Nat.lt_of_lt_of_le h3 hl1))⟩
      refine ⟨m', h1, hfr0.trans hfr, fun F n fn tmps R' ρ ds w hd hr hq => ?_⟩
      cases hd with
      | cons hl hd =>
        rename_i l ds
        have hobj : w.heap[l.b]? = some (.deferred (some [])) := hr.blk _ _ _ hx hl
        have p1 := post_drop (lo := lo) (w' := w.putObj l.b (.deferred none)) (o := .deferred none) hr hx hl (by simp) (fun j => putObj_get w _ _ (lt_of_get hobj) _)
        refine ⟨(by intro e; cases e), .inl ⟨l.b, _, rfl, run_takeDeferred hobj, ?_⟩⟩
        exact h2 F n fn tmps R' ρ ds _ hd p1.rel fun w' p2 => hq w' (Post.trans hr p1 p2)
    | _ => exact nomatch (show (none : R) = some r from h)
/-! ### Functions -/
omit hE in
theorem isOne_iff {α : Type} (l : List α) : isOne l = true ↔ l.length = 1 := by
  cases l with
  | nil => constructor <;> intro h <;> cases h
  | cons x l => cases l with
    | nil => constructor <;> intro _ <;> rfl
    | cons y l => constructor
                  · intro h; cases h
                  · intro h; simp at h
omit hE in
theorem mkRes_ok {one : Bool} {vs : AV} {k : AV → R} {r : VM} (h : mkRes one vs k = some r) : ∃ v, k v = some r ∧ ∀ (ρ : Ren) (l : List Value), LR ρ vs l → (one = true ↔ l.length = 1) → VR ρ v (if h : (⟨l⟩ : Array Value).size = 1 then (⟨l⟩ : Array Value)[0] else .tuple ⟨l⟩) := by
  cases one with
  | true =>
    obtain ⟨x, t, rfl, h⟩ := avCons_some (show avCons vs (fun h _ => k h) = some r from h)
    refine ⟨x, h, fun ρ l hl hone => ?_⟩
    have h1 := hone.1 rfl
    cases hl with
    | cons hv hl =>
      rename_i v l
      have h1 : l.length + 1 = 1 := h1
      have : l = [] := List.length_eq_zero_iff.1 (by omega)
      subst this
      exact hv
  | false =>
    refine ⟨.tup vs, h, fun ρ l hl hone => ?_⟩
    rw [dif_neg (by intro e; have := hone.2 e; cases this)]
    exact .tup hl
omit hE in
theorem xeEnd_some {e : XE} {y : R} {r : VM} (h : xeEnd e y = some r) : (e = .normal ∨ e = .ret) ∧ y = some r := by
  cases e with
  | normal => exact ⟨.inl rfl, h⟩
  | ret => exact ⟨.inr rfl, h⟩
  | exit id => exact nomatch (show (none : R) = some r from h)
  | goto l => exact nomatch (show (none : R) = some r from h)
theorem extern_ok {f : FuncId} {j : Nat} (hj : E.ext f = some j) {args : AV} {k : AV → R} {r : VM} (h : extern j args k = some r) : ∃ v, k v = some r ∧ (∀ l t, args ≠ .cons (.yld l) t) ∧ ∀ (ρ : Ren) (vs : List Value) (w : World), LR ρ args vs → ∃ v', (callFunc f ⟨vs⟩).run P w = .ok (.value v') w ∧ VR ρ v v' := by
  obtain ⟨a, t, rfl, h1⟩ := avCons_some (show avCons args _ = some r from h)
  obtain ⟨ht, h2⟩ := br_none h1
  have ht := isNl_eq.1 ht
  subst ht
  rcases br_some h2 with ⟨hj0, h3⟩ | ⟨_, h3⟩
  · have := nbt hj0; subst this
    cases a with
    | oth x =>
      cases x with
      | float fk b =>
        cases fk with
        | f64 =>
          refine ⟨_, h3, (by intro l t e; cases e), fun ρ vs w hl => ?_⟩
          cases hl with
          | cons hv hl =>
            cases hl
            obtain ⟨rfl, _⟩ := vr_oth hv
            exact ⟨.int .u64 b, hE.ext0 f hj b w, .int .u64 (.ofNat b)⟩
        | _ => exact nomatch (show (none : R) = some r from h3)
      | _ => exact nomatch (show (none : R) = some r from h3)
    | _ => exact nomatch (show (none : R) = some r from h3)
  · obtain ⟨hj1, h4⟩ := br_none h3
    have := nbt hj1; subst this
    obtain ⟨ik, n, rfl, h5⟩ := avInt_some h4
    cases ik with
    | u64 =>
      refine ⟨_, h5, (by intro l t e; cases e), fun ρ vs w hl => ?_⟩
      cases hl with
      | cons hv hl =>
        cases hl
        have := vr_int hv; subst this
        exact ⟨.float .f64 n.toNat, hE.ext1 f hj n w, .oth _ (by intro cs e; cases e)⟩
    | _ => exact nomatch (show (none : R) = some r from h5)
theorem fnC_ok {ih : Fs} (hF : FsOK E P ih) (hD : DrawOK E P ih) {f : FuncId} {args : AV} {m : Mem} {k : AV → Mem → R} {r : VM} (h : (fnC E f).f ih args m k = some r) : ∃ v m', k v m' = some r ∧ CallGood E P f args m v m' ∧ MemFr m m' := by
  unfold fnC at h
  cases hf : E.funcs.get f with
  | none => rw [hf] at h; exact nomatch (show (none : R) = some r from h)
  | some fn =>
    rw [hf] at h
    have hPf := hE.funcs f fn hf
    cases hb : fn.body with
    | none =>
      have h : (orec (orec noFn (fun j => (⟨fun _ args m k => extern j args fun v => k v m⟩ : FnC)) (E.ext f)) (fun c => br (Nat.ble fn.ntmps 512) (Cl.rec (motive := fun _ => FnC) (fun body => ResC.rec (motive := fun _ => FnC) (fun res =>
        ⟨fun ih args m k => br (Nat.ble (lenA args) fn.ntmps) (argsC 1000 args tm0 0 fun tm => body ih none tm [] m fun e tm' df m' => xeEnd e (marks df m' fun m'' => res tm' m'' fun vs => mkRes (isOne fn.results.toList) vs fun v => k v m'')) none⟩)
          (resC E fn.ntmps fn.results.toList)) (comp E fn.ntmps c)) noFn) fn.body).f ih args m k = some r := h
      rw [hb] at h
      have h : (orec noFn (fun j => (⟨fun _ args m k => extern j args fun v => k v m⟩ : FnC)) (E.ext f)).f ih args m k = some r := h
      cases hj : E.ext f with
      | none => rw [hj] at h; exact nomatch (show (none : R) = some r from h)
      | some j =>
        rw [hj] at h
        obtain ⟨v, hk, hno, hg⟩ := extern_ok hE hj (show extern j args (fun v => k v m) = some r from h)
        refine ⟨v, m, hk, fun ρ w vs hG hl hr => .inl ?_, MemFr.refl m⟩
        obtain ⟨v', h1, h2⟩ := hg ρ vs w hl
        exact ⟨ρ, v', w, h1, Post.refl hr, h2, hno⟩
    | some c =>
      have h : (orec (orec noFn (fun j => (⟨fun _ args m k => extern j args fun v => k v m⟩ : FnC)) (E.ext f)) (fun c => br (Nat.ble fn.ntmps 512) (Cl.rec (motive := fun _ => FnC) (fun body => ResC.rec (motive := fun _ => FnC) (fun res =>
        ⟨fun ih args m k => br (Nat.ble (lenA args) fn.ntmps) (argsC 1000 args tm0 0 fun tm => body ih none tm [] m fun e tm' df m' => xeEnd e (marks df m' fun m'' => res tm' m'' fun vs => mkRes (isOne fn.results.toList) vs fun v => k v m'')) none⟩)
          (resC E fn.ntmps fn.results.toList)) (comp E fn.ntmps c)) noFn) fn.body).f ih args m k = some r := h
      rw [hb] at h
      have h : (br (Nat.ble fn.ntmps 512) (Cl.rec (motive := fun _ => FnC) (fun body => ResC.rec (motive := fun _ => FnC) (fun res =>
        (⟨fun ih args m k => br (Nat.ble (lenA args) fn.ntmps) (argsC 1000 args tm0 0 fun tm => body ih none tm [] m fun e tm' df m' => xeEnd e (marks df m' fun m'' => res tm' m'' fun vs => mkRes (isOne fn.results.toList) vs fun v => k v m'')) none⟩ : FnC))
          (resC E fn.ntmps fn.results.toList)) (comp E fn.ntmps c)) noFn).f ih args m k = some r := h
      cases h512 : Nat.ble fn.ntmps 512 with
      | false => rw [h512] at h; exact nomatch (show (none : R) = some r from h)
      | true =>
        rw [h512] at h
        have h512 := nble h512
        have h : br (Nat.ble (lenA args) fn.ntmps) (argsC 1000 args tm0 0 fun tm => (comp E fn.ntmps c).f ih none tm [] m fun e tm' df m' => xeEnd e (marks df m' fun m'' => (resC E fn.ntmps fn.results.toList).f tm' m'' fun vs => mkRes (isOne fn.results.toList) vs fun v => k v m'')) none = some r := by
          generalize comp E fn.ntmps c = cc at h ⊢
          generalize resC E fn.ntmps fn.results.toList = rr at h ⊢
          cases cc; cases rr
          exact h
        obtain ⟨hlen, h⟩ := br_none h
        have hlen := nble hlen
        obtain ⟨tm, h1, htm⟩ := argsC_ok 1000 h (by omega)
        obtain ⟨e, tm', df', m1, h2, f2, g2⟩ := comp_ok hE hF hD c h1
        obtain ⟨he, h3⟩ := xeEnd_some h2
        obtain ⟨m2, h4, f4, g4⟩ := marks_ok (P := P) df' h3
        obtain ⟨vs, h5, g5⟩ := resC_ok hE fn.results.toList h4
        obtain ⟨v, h6, g6⟩ := mkRes_ok h5
        refine ⟨v, m2, h6, fun ρ w args' hG hl hr => .inr ⟨hE.call f fn hf (by rw [hb]; rfl) _ w, fun n => ?_⟩, f2.trans f4⟩
        refine callsIn_of_wp_marks (F := Fence.wide) hPf hb trivial ?_ rfl
        have hsz : args'.length ≤ fn.ntmps := by rw [← hl.length]; exact hlen
        have ht0 := tm_start (nt := fn.ntmps) hsz (htm ρ args' hl)
        refine g2 n ρ { tmps := _, defers := [] } w none hG ht0 .nil hr trivial _ fun ρ1 a1 w1 hp1 ht1 hd1 => ?_
        have hfin : LeavesInM Fence.wide n P fn a1.tmps (fun e w' => ∃ ρ' v', e = .returned v' ∧ Post ρ m w ρ' m2 w' ∧ VR ρ' v v') a1.defers .returning w1 := by
          refine g4 Fence.wide n fn a1.tmps _ ρ1 a1.defers w1 hd1 hp1.rel fun w2 hp2 => ?_
          obtain ⟨l, hll, hln, hrun⟩ := g5 ρ1 a1.tmps w2 (hG.mono hp1.le) ht1 hp2.rel
          have hv := g6 ρ1 l hll (by rw [isOne_iff, hln])
          refine ⟨_, ?_, ρ1, _, rfl, Post.trans hr hp1 hp2, hv⟩
          have hm : (fn.results.mapM (resM a1.tmps)).run P w2 = .ok ⟨l⟩ w2 := by
            rw [Array.mapM_eq_mapM_toList, Sem.run_map, hrun]; rfl
          have e0 : results fn a1.tmps = (fn.results.mapM (resM a1.tmps) >>= fun vs => pure (if h : vs.size = 1 then vs[0] else .tuple vs)) := by
            unfold results
            congr 1
          rw [e0, Sem.run_bind, hm]
          rfl
        rcases he with rfl | rfl
        · exact hfin
        · exact hfin
/-! ### Rounds -/
omit hE in
theorem parC_ok : ∀ (ps : List Tmp) {args : AV} {tm : TM} {k : TM → R} {r : VM}, parC nt ps args tm k = some r → ∃ tm', k tm' = some r ∧ ∀ (ρ : Ren) (vs : List Value) (tmps : Array Value), LR ρ args vs → TmR ρ nt tm tmps →
    vs.length = ps.length ∧ TmR ρ nt tm' ((ps.zip vs).foldl (fun (tmps : Array Value) (x : Tmp × Value) => tmps.setIfInBounds x.1 x.2) tmps) := by
  intro ps
  induction ps with
  | nil =>
    intro args tm k r h
    rcases avList_some (show avList args (k tm) (fun _ _ => none) = some r from h) with ⟨rfl, h1⟩ | ⟨_, _, _, h1⟩
    · exact ⟨tm, h1, fun ρ vs tmps hl htm => by cases hl; exact ⟨rfl, htm⟩⟩
    · exact nomatch h1
  | cons p ps ih =>
    intro args tm k r h
    obtain ⟨x, t, rfl, h1⟩ := avCons_some (show avCons args (fun h t => orec none (fun (d : Put) => d.f tm h fun tm' => parC nt ps t tm' k) (dstC nt (some p))) = some r from h)
    obtain ⟨d, hd, h2⟩ := orec_get h1
    obtain ⟨tm1, h3, hput⟩ := dstC_ok hd h2
    obtain ⟨tm', h4, hg⟩ := ih h3
    refine ⟨tm', h4, fun ρ vs tmps hl htm => ?_⟩
    cases hl with
    | cons hv hl =>
      rename_i v vs
      obtain ⟨q1, q2⟩ := hput ρ ⟨tmps, []⟩ v htm hv
      obtain ⟨q3, q4⟩ := hg ρ vs (tmps.setIfInBounds p v) hl q1
      exact ⟨by simp [q3], q4⟩
theorem round1_ok {ih : Fs} (hF : FsOK E P ih) (hD : DrawOK E P ih) {l : Nat} {args : AV} {m : Mem} {k : AV → Mem → R} {r : VM} (h : round1 E ih l args m k = some r) : ∃ v m', k v m' = some r ∧ RoundGood E P l args m v m' ∧ MemFr m m' := by
  obtain ⟨x, hx, h⟩ := orec_get (show orec none _ (m.hp.get l) = some r from h)
  cases x with
  | loop st p tm nt ps as bd d =>
    obtain ⟨tm1, h1, hpar⟩ := parC_ok ps (show parC nt ps args tm (fun tm' => (comp E nt as).f ih (some l) tm' [] m fun e tm'' df' m' => xeNormal e (roundBody E l nt bd ih tm'' df' m' k) fun _ => none) = some r from h)
    obtain ⟨e1, tm2, df2, m1, h2, f1, g1⟩ := comp_ok hE hF hD as h1
    rcases xeNormal_some h2 with ⟨rfl, h3⟩ | ⟨_, h3⟩
    · obtain ⟨y, hy, h4⟩ := orec_get (show orec none _ (m1.hp.get l) = some r from h3)
      cases y with
      | loop st1 p1 tm3 nt3 ps3 as3 bd3 d3 =>
        cases st1 with
        | ready =>
          obtain ⟨lo, h5, f5⟩ := put_mem (show put m1 l (.loop .busy p1 tm3 nt3 ps3 as3 bd3 d3) (fun m' => (comp E nt bd).f ih (some l) tm2 df2 m' fun e _ _ m'' => orec none (fun b => match b with
            | Bk.loop _ _ tm2 nt2 ps2 as2 bd2 d2 => put m'' l (.loop (stOf e) (jumpOf e) tm2 nt2 ps2 as2 bd2 d2) fun m3 => k (.bool (goesOn e)) m3
            | _ => none) (m''.hp.get l)) = some r from h4)
          obtain ⟨e2, tm4, df4, m2, h6, f2, g2⟩ := comp_ok hE hF hD bd h5
          obtain ⟨z, hz, h7⟩ := orec_get h6
          cases z with
          | loop st2 p2 tm5 nt5 ps5 as5 bd5 d5 =>
            obtain ⟨lo2, h8, f8⟩ := put_mem h7
            refine ⟨_, _, h8, fun ρ w vs kl hG hl hr hkl => ?_, f1.trans (f5.trans (f2.trans f8))⟩
            obtain ⟨fn, tmps, ld, hobj, htm, hld⟩ := hr.blk _ _ _ hx hkl
            obtain ⟨hlen, htm1⟩ := hpar ρ vs tmps hl htm
            have hy' := run_yield (P := P) (args := ⟨vs⟩) hobj (by simpa using hlen)
            refine ⟨_, _, _, _, hy', fun n => roundIn_of_wpIn trivial ?_⟩
            have ez : (({ state := st, pending := p, fn, tmps, params := ⟨ps⟩, assign := as, body := bd, defers := ld.b : Loop }.params.zip ⟨vs⟩).foldl (fun (tmps : Array Value) (x : Tmp × Value) => match x with | (t, a) => tmps.setIfInBounds t a) tmps) = ((ps.zip vs).foldl (fun (tmps : Array Value) (x : Tmp × Value) => tmps.setIfInBounds x.1 x.2) tmps) := by
              simp
            refine g1 n ρ { tmps := _, defers := [] } w (some kl.b) hG (by rw [← ez] at htm1; exact htm1) .nil hr ⟨kl, hkl, rfl⟩ _ fun ρ1 a1 w1 hp1 ht1 hd1 => ?_
            have hk1 := hp1.le _ _ hkl
            obtain ⟨fn1, tmps1, ld1, hobj1, htm3, hld1⟩ := hp1.rel.blk _ _ _ hy hk1
            have hbusy := post_put (lo := lo) (x' := .loop .busy p1 tm3 nt3 ps3 as3 bd3 d3) (w' := w1.putObj kl.b (.loop { state := .busy, pending := p1, fn := fn1, tmps := tmps1, params := ⟨ps3⟩, assign := as3, body := bd3, defers := ld1.b })) hp1.rel hy hk1 (by simp) (fun j => putObj_get w1 _ _ (lt_of_get hobj1) _) ⟨fn1, tmps1, ld1, rfl, htm3, hld1⟩
            refine ⟨_, run_beginRound hobj1 rfl, ?_⟩
            refine g2 n ρ1 a1 _ (some kl.b) (hG.mono hp1.le) ht1 hd1 hbusy.rel ⟨kl, hk1, rfl⟩ _ fun ρ2 a2 w2 hp2 ht2 hd2 => ?_
            · have hk2 := hp2.le _ _ hk1
              obtain ⟨fn2, tmps2, ld2, hobj2, htm5, hld2⟩ := hp2.rel.blk _ _ _ hz hk2
              have key : ∀ (jump : Option Code) (st' : LoopState), st' = (if jump.isNone then .ready else .done) → stOf e2 = st' → jumpOf e2 = jump → goesOn e2 = jump.isNone →
                  ∃ v w', (Instr.endRound kl.b jump).run P w2 = .ok v w' ∧ (∃ ρ' v', Ending.returned v = .returned v' ∧ Post ρ m w ρ' ⟨m2.hp.set (some (.loop (stOf e2) (jumpOf e2) tm5 nt5 ps5 as5 bd5 d5)) l, m2.nx, lo2⟩ w' ∧ VR ρ' (.bool (goesOn e2)) v') := by
                intro jump st' hst h1 h2 h3
                subst hst
                rw [h1, h2, h3]
                have hp3 := post_put (lo := lo2) (x' := .loop (if jump.isNone then .ready else .done) jump tm5 nt5 ps5 as5 bd5 d5) (w' := w2.putObj kl.b (.loop { state := (if jump.isNone then .ready else .done), pending := jump, fn := fn2, tmps := tmps2, params := ⟨ps5⟩, assign := as5, body := bd5, defers := ld2.b })) hp2.rel hz hk2 (by simp) (fun j => putObj_get w2 _ _ (lt_of_get hobj2) _) ⟨fn2, tmps2, ld2, rfl, htm5, hld2⟩
                exact ⟨_, _, run_endRound jump hobj2, ρ2, _, rfl, Post.trans hr hp1 (Post.trans hp1.rel hbusy (Post.trans hbusy.rel hp2 hp3)), .bool _⟩
              cases e2 with
              | normal => exact key none .ready rfl rfl rfl rfl
              | ret => exact key (some .ret) .done rfl rfl rfl rfl
              | exit id => exact key (some (.exit id)) .done rfl rfl rfl rfl
              | goto t => exact key (some (.goto t)) .done rfl rfl rfl rfl
          | _ => exact nomatch (show (none : R) = some r from h7)
        | _ => exact nomatch (show (none : R) = some r from h4)
      | _ => exact nomatch (show (none : R) = some r from h4)
    · exact nomatch h3
  | _ => exact nomatch (show (none : R) = some r from h)
/-! ### All together -/
theorem fs_ok (hD : ∀ ih, FsOK E P ih → DrawOK E P ih) : ∀ n, FsOK E P (fs E n) := by
  intro n
  induction n with
  | zero => exact ⟨(fun h => nomatch (show (none : R) = _ from h)), (fun h => nomatch (show (none : R) = _ from h))⟩
  | succ n ih => exact ⟨fun h => fnC_ok hE ih (hD _ ih) h, fun h => round1_ok hE ih (hD _ ih) h⟩
/-- **A closed call that the executor brings to true comes to true, and leaves what was there as it was.** -/
theorem closed_true (hD : ∀ ih, FsOK E P ih → DrawOK E P ih) (hng : E.ng = 0) {n : Nat} {f : FuncId} {fn : Func} {nx : Nat} (hf : E.funcs.get f = some fn) (hb : fn.body.isSome = true) (h : isTrue (closed E n f .nl nx) = true) (w : World) :
    Calls P f #[] w fun e w' => e = .returned (.bool true) ∧ w.heap.size ≤ w'.heap.size ∧ (w'.os = w.os ∧ w'.output = w.output) ∧ ∀ b, b < w.heap.size → w'.heap[b]? = w.heap[b]? := by
  cases hc : closed E n f .nl nx with
  | none => rw [hc] at h; cases h
  | some x =>
    obtain ⟨v, m', hk, hg, _⟩ := (fs_ok hE hD n).call (show (fs E n).call f .nl ⟨.e, nx, 0⟩ (fun v m => some (.mk v m)) = some x from hc)
    have hx : x = .mk v m' := by injection hk with e; exact e.symm
    subst hx
    rw [hc] at h
    have hv : v = .bool true := by
      have h : isTrueA v = true := h
      cases v with
      | bool b => cases b with | true => rfl | false => cases h
      | _ => cases h
    subst hv
    have hr : Rel (fun _ => none) ⟨.e, nx, 0⟩ w := ⟨fun i y l _ h => (by cases h), fun i i' y y' l l' _ _ h => (by cases h), fun i l h => (by cases h)⟩
    rcases hg (fun _ => none) w [] (fun g hg => by rw [hng] at hg; omega) .nl hr with ⟨ρ', v', w', h1, _⟩ | ⟨_, h2⟩
    · have h3 := hE.call f fn hf hb #[] w
      rw [h3] at h1; cases h1
    · have h3 := callsIn_wide.1 (h2 0)
      refine Calls.mono h3 fun e w' he => ?_
      obtain ⟨ρ', v', rfl, hp, hv⟩ := he
      have := vr_bool hv; subst this
      exact ⟨rfl, hp.size, hp.io, fun b hb => hp.frame b hb fun i y l h => by cases h⟩
end
end Go.Rx
