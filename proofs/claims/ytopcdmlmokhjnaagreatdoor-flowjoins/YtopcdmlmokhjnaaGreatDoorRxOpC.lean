/-
  Every operation of the executor, and the model's: put together.
-/
import Derived.Test.YtopcdmlmokhjnaaGreatDoorRxOp8
import Derived.RangeFuncRecord
import Derived.RangeFuncCalls
set_option linter.unusedVariables false
set_option linter.unusedSimpArgs false
set_option linter.unusedSectionVars false
namespace Go.Rx

/-! ### Frames -/
theorem store_fr {n : Nat} {m m' : Mem} {a v : AV} (h : ∀ k, storeC n m a v k = k m') : Fr m m' := by
  obtain ⟨b, i, e, h1⟩ := avPtr_some (show avPtr a _ = some (VM.mk .nl m') from h pm)
  obtain ⟨cs, hcs, h2⟩ := yl_cellsK v _ _ h1
  obtain ⟨h3, h4⟩ := br_none h2
  refine wr_fr (b := b) (o := i) (xs := cs) fun k => ?_
  have e1 := h k
  subst e
  have e2 : storeC n m (.ptr b i) v k = br (Nat.beq (lenA cs) n) (wr m b i cs k) none := hcs fun cs => br (Nat.beq (lenA cs) n) (wr m b i cs k) none
  rw [e2, h3] at e1
  exact e1
theorem grow_fr {m0 m m' : Mem} (h0 : Fr m0 m) {size need : Nat} {old xs v : AV} (h : ∀ k : AV → Mem → R, grow m size old xs need k = k v m') : Fr m0 m' := by
  obtain ⟨_, _, e⟩ := grow_some h
  exact h0.thenNew (b := .cells (appA old xs) (some size)) fun k => by rw [e]; rfl
theorem app_fr {m m' : Mem} {size : Nat} {s x v : AV} (hv : ∀ k : AV → Mem → R, app m size s x k = k v m') : Fr m m' := by
  obtain ⟨n, hlen, h2⟩ := yl_lenOf x _ _ (show (lenOf x fun n => elems m size n x fun xs => avSlc s _ _) = some (VM.mk v m') from hv pvm)
  obtain ⟨xs, hxs, h3⟩ := yl_elems m size n x _ _ h2
  have e1 : ∀ k : AV → Mem → R, (avSlc s
      (fun b o len cap => br (Nat.ble (Nat.add len n) cap)
        (br (isNl xs) (k (.slc b o (Nat.add len n) cap) m) (wr m b (Nat.add o (Nat.mul len size)) xs fun m' => k (.slc b o (Nat.add len n) cap) m'))
        (elems m size len s fun old => capKnown m b (grow m size old xs (Nat.add len n) k) fun es => br (Nat.beq es size) (kill m b fun m' => grow m' size old xs (Nat.add len n) k) none))
      (fun len cap => br (Nat.beq len 0) (br (Nat.beq cap 0) (br (Nat.beq n 0) (k (.oth (.slice none 0 0)) m) (grow m size .nl xs n k)) none) none)) = k v m' := by
    intro k
    have e1 := hlen fun n => elems m size n x fun xs => avSlc s
      (fun b o len cap => br (Nat.ble (Nat.add len n) cap)
        (br (isNl xs) (k (.slc b o (Nat.add len n) cap) m) (wr m b (Nat.add o (Nat.mul len size)) xs fun m' => k (.slc b o (Nat.add len n) cap) m'))
        (elems m size len s fun old => capKnown m b (grow m size old xs (Nat.add len n) k) fun es => br (Nat.beq es size) (kill m b fun m' => grow m' size old xs (Nat.add len n) k) none))
      (fun len cap => br (Nat.beq len 0) (br (Nat.beq cap 0) (br (Nat.beq n 0) (k (.oth (.slice none 0 0)) m) (grow m size .nl xs n k)) none) none)
    rw [hxs] at e1
    exact e1.symm.trans (hv k)
  clear h2 h3
  rcases avSlc_some (show avSlc s _ _ = some (VM.mk v m') from e1 pvm) with ⟨b, o', len, cap, ep, h4⟩ | ⟨len, cap, ep, h4⟩
  · subst ep
    have e2 : ∀ k : AV → Mem → R, br (Nat.ble (Nat.add len n) cap)
        (br (isNl xs) (k (.slc b o' (Nat.add len n) cap) m) (wr m b (Nat.add o' (Nat.mul len size)) xs fun m' => k (.slc b o' (Nat.add len n) cap) m'))
        (elems m size len (.slc b o' len cap) fun old => capKnown m b (grow m size old xs (Nat.add len n) k) fun es => br (Nat.beq es size) (kill m b fun m' => grow m' size old xs (Nat.add len n) k) none) = k v m' := e1
    cases hroom : Nat.ble (Nat.add len n) cap with
    | true =>
      rw [hroom] at e2
      have e2 : ∀ k : AV → Mem → R, br (isNl xs) (k (.slc b o' (Nat.add len n) cap) m) (wr m b (Nat.add o' (Nat.mul len size)) xs fun m' => k (.slc b o' (Nat.add len n) cap) m') = k v m' := e2
      cases hnlx : isNl xs with
      | true =>
        rw [hnlx] at e2
        obtain ⟨_, hm1⟩ := pvm_inj (show pvm (.slc b o' (Nat.add len n) cap) m = some (VM.mk v m') from e2 pvm)
        subst hm1; exact Fr.refl m
      | false =>
        rw [hnlx] at e2
        have e3 : ∀ k : AV → Mem → R, wr m b (Nat.add o' (Nat.mul len size)) xs (fun m' => k (.slc b o' (Nat.add len n) cap) m') = k v m' := e2
        obtain ⟨m1, hm1, h5⟩ := yl_wr m b (Nat.add o' (Nat.mul len size)) xs _ _ (e3 pvm)
        obtain ⟨_, hm⟩ := pvm_inj h5
        subst hm
        exact wr_fr hm1
    | false =>
      rw [hroom] at e2
      have e2 : ∀ k : AV → Mem → R, (elems m size len (.slc b o' len cap) fun old => capKnown m b (grow m size old xs (Nat.add len n) k) fun es => br (Nat.beq es size) (kill m b fun m' => grow m' size old xs (Nat.add len n) k) none) = k v m' := e2
      obtain ⟨old, holdk, h5⟩ := yl_elems m size len (.slc b o' len cap) _ _ (e2 pvm)
      have e3 : ∀ k : AV → Mem → R, capKnown m b (grow m size old xs (Nat.add len n) k) (fun es => br (Nat.beq es size) (kill m b fun m' => grow m' size old xs (Nat.add len n) k) none) = k v m' := fun k => (holdk _).symm.trans (e2 k)
      obtain ⟨blk, hblk, h6⟩ := orec_get (show orec none _ (m.hp.get b) = some (VM.mk v m') from e3 pvm)
      cases blk with
      | cells vs ext =>
        have e4 : ∀ k : AV → Mem → R, orec (grow m size old xs (Nat.add len n) k) (fun es => br (Nat.beq es size) (kill m b fun m' => grow m' size old xs (Nat.add len n) k) none) ext = k v m' := by
          intro k
          have := e3 k
          unfold capKnown at this
          rw [hblk] at this
          exact this
        cases ext with
        | none => exact grow_fr (Fr.refl m) e4
        | some es =>
          have e4 : ∀ k : AV → Mem → R, br (Nat.beq es size) (kill m b fun m' => grow m' size old xs (Nat.add len n) k) none = k v m' := e4
          obtain ⟨hes, _⟩ := br_none (show br (Nat.beq es size) _ none = some (VM.mk v m') from e4 pvm)
          rw [hes] at e4
          obtain ⟨m1, hk1, _⟩ := yl_kill m b _ _ (show kill m b (fun m' => grow m' size old xs (Nat.add len n) pvm) = some (VM.mk v m') from e4 pvm)
          have e5 : ∀ k : AV → Mem → R, grow m1 size old xs (Nat.add len n) k = k v m' := fun k => (hk1 _).symm.trans (e4 k)
          exact grow_fr (kill_fr hk1) e5
      | _ => exact nomatch (show (none : R) = some (VM.mk v m') from h6)
  · subst ep
    have e2 : ∀ k : AV → Mem → R, br (Nat.beq len 0) (br (Nat.beq cap 0) (br (Nat.beq n 0) (k (.oth (.slice none 0 0)) m) (grow m size .nl xs n k)) none) none = k v m' := e1
    obtain ⟨z0, h5⟩ := br_none (show br (Nat.beq len 0) _ none = some (VM.mk v m') from e2 pvm)
    obtain ⟨z1, _⟩ := br_none h5
    rw [z0, z1] at e2
    have e3 : ∀ k : AV → Mem → R, br (Nat.beq n 0) (k (.oth (.slice none 0 0)) m) (grow m size .nl xs n k) = k v m' := e2
    cases hn0 : Nat.beq n 0 with
    | true =>
      rw [hn0] at e3
      obtain ⟨_, hm1⟩ := pvm_inj (show pvm (.oth (.slice none 0 0)) m = some (VM.mk v m') from e3 pvm)
      subst hm1; exact Fr.refl m
    | false => rw [hn0] at e3; exact grow_fr (Fr.refl m) e3
theorem copy_fr {m m' : Mem} {size : Nat} {d x v : AV} (hv : ∀ k : AV → Mem → R, copyC m size d x k = k v m') : Fr m m' := by
  obtain ⟨sl, hlen, h2⟩ := yl_lenOf x _ _ (show (lenOf x fun sl => avSlc d _ _) = some (VM.mk v m') from hv pvm)
  have e1 : ∀ k : AV → Mem → R, (avSlc d
      (fun b o dl _ => elems m size (minN sl dl) x fun xs => br (isNl xs) (k (.int .i64 (.ofNat (minN sl dl))) m) (wr m b o xs fun m' => k (.int .i64 (.ofNat (minN sl dl))) m'))
      (fun dl _ => br (Nat.beq dl 0) (k (.int .i64 0) m) none)) = k v m' := fun k => (hlen fun sl => avSlc d
      (fun b o dl _ => elems m size (minN sl dl) x fun xs => br (isNl xs) (k (.int .i64 (.ofNat (minN sl dl))) m) (wr m b o xs fun m' => k (.int .i64 (.ofNat (minN sl dl))) m'))
      (fun dl _ => br (Nat.beq dl 0) (k (.int .i64 0) m) none)).symm.trans (hv k)
  rcases avSlc_some (show avSlc d _ _ = some (VM.mk v m') from e1 pvm) with ⟨b, o', dl, cap, ep, h4⟩ | ⟨dl, cap, ep, h4⟩
  · subst ep
    have e2 : ∀ k : AV → Mem → R, (elems m size (minN sl dl) x fun xs => br (isNl xs) (k (.int .i64 (.ofNat (minN sl dl))) m) (wr m b o' xs fun m' => k (.int .i64 (.ofNat (minN sl dl))) m')) = k v m' := e1
    obtain ⟨xs, hxs, _⟩ := yl_elems m size (minN sl dl) x _ _ (e2 pvm)
    have e3 : ∀ k : AV → Mem → R, br (isNl xs) (k (.int .i64 (.ofNat (minN sl dl))) m) (wr m b o' xs fun m' => k (.int .i64 (.ofNat (minN sl dl))) m') = k v m' := fun k => (hxs _).symm.trans (e2 k)
    cases hnlx : isNl xs with
    | true =>
      rw [hnlx] at e3
      obtain ⟨_, hm1⟩ := pvm_inj (show pvm (.int .i64 (.ofNat (minN sl dl))) m = some (VM.mk v m') from e3 pvm)
      subst hm1; exact Fr.refl m
    | false =>
      rw [hnlx] at e3
      have e4 : ∀ k : AV → Mem → R, wr m b o' xs (fun m' => k (.int .i64 (.ofNat (minN sl dl))) m') = k v m' := e3
      obtain ⟨m1, hm1, h5⟩ := yl_wr m b o' xs _ _ (e4 pvm)
      obtain ⟨_, hm⟩ := pvm_inj h5
      subst hm
      exact wr_fr hm1
  · subst ep
    obtain ⟨_, h5⟩ := br_none (show br (Nat.beq dl 0) (pvm (.int .i64 0) m) none = some (VM.mk v m') from e1 pvm)
    obtain ⟨_, hm1⟩ := pvm_inj h5
    subst hm1; exact Fr.refl m

/-! ### Calls -/
/-- what a call of the executor's is worth -/
def CallGood (E : Env) (P : Program) (f : FuncId) (args : AV) (m : Mem) (v : AV) (m' : Mem) : Prop :=
  ∀ (ρ : Ren) (w : World) (vs : List Value), Glob E ρ → LR ρ args vs → Rel ρ m w →
    (∃ ρ' v' w', (callFunc f ⟨vs⟩).run P w = .ok (.value v') w' ∧ Post ρ m w ρ' m' w' ∧ VR ρ' v v' ∧ ∀ l t, args ≠ .cons (.yld l) t) ∨
    ((callFunc f ⟨vs⟩).run P w = .ok (.enter f ⟨vs⟩) w ∧ ∀ n, CallsIn Fence.wide n P f ⟨vs⟩ w fun e w' => ∃ ρ' v', e = .returned v' ∧ Post ρ m w ρ' m' w' ∧ VR ρ' v v')
def RoundGood (E : Env) (P : Program) (l : Nat) (args : AV) (m : Mem) (v : AV) (m' : Mem) : Prop :=
  ∀ (ρ : Ren) (w : World) (vs : List Value) (k : Loc), Glob E ρ → LR ρ args vs → Rel ρ m w → ρ l = some k →
    ∃ f tmps as bd, (Instr.yield k.b ⟨vs⟩).run P w = .ok (.round k.b f tmps as bd) w ∧
      ∀ n, RoundIn Fence.wide n P k.b f tmps as bd w fun e w' => ∃ ρ' v', e = .returned v' ∧ Post ρ m w ρ' m' w' ∧ VR ρ' v v'
structure FsOK (E : Env) (P : Program) (ih : Fs) : Prop where
  call : ∀ {f args m k r}, ih.call f args m k = some r → ∃ v m', k v m' = some r ∧ CallGood E P f args m v m' ∧ MemFr m m'
  round : ∀ {l args m k r}, ih.round l args m k = some r → ∃ v m', k v m' = some r ∧ RoundGood E P l args m v m' ∧ MemFr m m'

section
variable {E : Env} {P : Program} {nt : Nat} {o : Oper} {tm : TM} {m : Mem} (hE : EnvOK E P)
theorem fence_calls {rd : Option Nat} {n : Nat} {f : FuncId} {args : Array Value} {w : World} {R : Ending → World → Prop} (h : CallsIn Fence.wide n P f args w R) : CallsIn (fence rd) n P f args w R := by
  cases rd with
  | none => exact h
  | some l => exact h.inRound l
theorem fence_round {rd : Option Nat} {n l : Nat} {f : FuncId} {tmps : Array Value} {as bd : Code} {w : World} {R : Ending → World → Prop} (h : RoundIn Fence.wide n P l f tmps as bd w R) : RoundIn (fence rd) n P l f tmps as bd w R := by
  cases rd with
  | none => exact h
  | some l => exact h
theorem fence_depth (rd : Option Nat) (n : Nat) : (fence rd).depth.isSome = true → 1 ≤ n := by
  cases rd with
  | none => intro h; cases h
  | some l => intro h; cases h
theorem callsIn_mono' {F : Fence} {n : Nat} {f : FuncId} {args : Array Value} {w : World} {R R' : Ending → World → Prop} (h : CallsIn F n P f args w R) (hr : ∀ e w', R e w' → R' e w') : CallsIn F n P f args w R' :=
  ⟨h.1, fun cs hroom => let ⟨e, w', fr, r, s⟩ := h.2 cs hroom; ⟨e, w', fr, hr _ _ r, s⟩⟩
include hE
theorem good_call {c : Call} {x : Operand} {pf pa : Opd} {ih : Fs} (hF : FsOK E P ih) (ho : o.op = .call c) (hc : c.callee = .value x) (hx : opdC E nt x = some pf) (ha : opdsC E nt c.args.toList = some pa) {d : Put} (hd : dstC nt o.dst = some d) {k : TM → Mem → R} {r : VM}
    (h : (callC d pf pa).f ih tm m k = some r) : Fin E P nt o tm m d k r := by
  have hargs : ∀ a : Act, (c.args.map a.eval) = ⟨c.args.toList.map a.eval⟩ := fun a => by apply Array.ext'; simp
  rcases avFn_some (show avFn (pf.f tm) (fun g caps => ih.call g (appA (pa.f tm) caps) m fun v m' => d.f tm v fun tm' => k tm' m') (fun l => ih.round l (pa.f tm) m fun v m' => d.f tm v fun tm' => k tm' m') = some r from h) with ⟨g, caps, e, h1⟩ | ⟨l, e, h1⟩
  · obtain ⟨v, m', h2, hg, hfr⟩ := hF.call h1
    refine ⟨v, m', h2, ?_, hfr, fun hno => absurd hc (hno c x ho)⟩
    intro rd n ρ a w hG ht hr next Q hnext
    have hp := ht x (by rw [ho]; show x ∈ c.operands; simp [Call.operands, hc]) _ hx
    have hargsR := opdsR ht (fun y hy => mem_call ho hy) ha
    rw [e] at hp
    obtain ⟨cl, hcl, hpv⟩ := vr_fn hp
    have hrun : (execOp a.eval o).run P w = (callFunc g ⟨c.args.toList.map a.eval ++ cl⟩).run P w := by
      have : (c.args.map a.eval ++ (⟨cl⟩ : Array Value)) = ⟨c.args.toList.map a.eval ++ cl⟩ := by rw [hargs]; simp
      simp only [execOp, ho, resolve, hc, hpv, Deferred.ofValue, Sem.run_bind, Sem.run_pure, Result.andThen_ok, invoke, Array.empty_append, this]
    rcases hg ρ w _ hG (hargsR.append hcl) hr with ⟨ρ', v', w', hr1, hp1, hv1, _⟩ | ⟨hr1, hcalls⟩
    · rw [hrun, hr1]
      exact hnext ρ' v' w' hp1 hv1
    · rw [hrun, hr1, Oper.uponIn_enter]
      refine ⟨fence_depth rd n, fence_calls (callsIn_mono' (hcalls (n - 1)) ?_)⟩
      rintro e' w' ⟨ρ', v', rfl, hp1, hv1⟩
      exact hnext ρ' v' w' hp1 hv1
  · obtain ⟨v, m', h2, hg, hfr⟩ := hF.round h1
    refine ⟨v, m', h2, ?_, hfr, fun hno => absurd hc (hno c x ho)⟩
    intro rd n ρ a w hG ht hr next Q hnext
    have hp := ht x (by rw [ho]; show x ∈ c.operands; simp [Call.operands, hc]) _ hx
    have hargsR := opdsR ht (fun y hy => mem_call ho hy) ha
    rw [e] at hp
    obtain ⟨kl, hkl, hpv⟩ := vr_yld hp
    have hrun : (execOp a.eval o).run P w = (Instr.yield kl.b ⟨c.args.toList.map a.eval⟩).run P w := by
      simp only [execOp, ho, resolve, hc, hpv, Deferred.ofValue, Sem.run_bind, Sem.run_pure, Result.andThen_ok, invoke, Array.empty_append, hargs]
    obtain ⟨f, tmps, as, bd, hy, hround⟩ := hg ρ w _ kl hG hargsR hr hkl
    rw [hrun, hy, Oper.uponIn_round]
    refine ⟨fence_depth rd n, fence_round ((hround (n - 1)).mono ?_)⟩
    rintro e' w' ⟨ρ', v', rfl, hp1, hv1⟩
    exact hnext ρ' v' w' hp1 hv1

/-! ### All of them -/
omit hE in
/-- a value in passing style, then put -/
theorem fin_yl {g : (AV → R) → R} (hy : Yl g) {d : Put} (hd : dstC nt o.dst = some d) {k : TM → Mem → R} {r : VM} (h : (g fun v => d.f tm v fun tm' => k tm' m) = some r) (hs : ∀ v, (∀ k', g k' = k' v) → Step E P nt o tm m v m) :
    Fin E P nt o tm m d k r := by
  obtain ⟨v, hv, h⟩ := hy _ _ h
  exact fin_step hd h (hs v hv)
omit hE in
theorem fin_ylm {g : (Mem → R) → R} (hy : Yl g) {d : Put} (hd : dstC nt o.dst = some d) {v : AV} {k : TM → Mem → R} {r : VM} (h : (g fun m' => d.f tm v fun tm' => k tm' m') = some r) (hs : ∀ m', (∀ k', g k' = k' m') → Step E P nt o tm m v m') (hfr : ∀ m', (∀ k', g k' = k' m') → Fr m m') :
    Fin E P nt o tm m d k r := by
  obtain ⟨v, hv, h⟩ := hy _ _ h
  exact fin_stepM hd h (hs v hv) (hfr v hv)
omit hE in
theorem fin_yl2 {g : (AV → Mem → R) → R} (hy : Yl2 g) {d : Put} (hd : dstC nt o.dst = some d) {k : TM → Mem → R} {r : VM} (h : (g fun v m' => d.f tm v fun tm' => k tm' m') = some r) (hs : ∀ v m', (∀ k', g k' = k' v m') → Step E P nt o tm m v m') (hfr : ∀ v m', (∀ k', g k' = k' v m') → Fr m m') :
    Fin E P nt o tm m d k r := by
  obtain ⟨v, m', hv, h⟩ := hy _ _ h
  exact fin_stepM hd h (hs v m' hv) (hfr v m' hv)
theorem good_bltn {c : Call} {b : Builtin} {ih : Fs} (ho : o.op = .call c) (hc : c.callee = .builtin b) {d : Put} (hd : dstC nt o.dst = some d) {k : TM → Mem → R} {r : VM}
    (h : (bltnC E nt d b c.argTypes.toList c.args.toList).f ih tm m k = some r) : Fin E P nt o tm m d k r := by
  cases hargs : c.args.toList with
  | nil => rw [hargs] at h; exact (noC_no h).elim
  | cons x l =>
    cases l with
    | nil =>
      rw [hargs] at h
      obtain ⟨p, hx, h⟩ := withO_some (show (withO (opdC E nt x) _).f ih tm m k = some r from h)
      obtain ⟨t, ht, h⟩ := withO_some h
      cases b with
      | len =>
        obtain ⟨dd, hdd, h⟩ := withO_some (show (lenC E d t p).f ih tm m k = some r from h)
        cases dd with
        | array n el => exact fin_step hd h (step_len_array hE ho hc hargs ht hdd)
        | pointer q =>
          obtain ⟨dq, hdq, h⟩ := withO_some h
          cases dq with
          | array n el => exact fin_step hd h (step_len_parray hE ho hc hargs ht hdd hdq)
          | _ => exact (noC_no h).elim
        | string =>
          obtain ⟨s, e, h⟩ := avStr_some (show avStr (p.f tm) (fun s => d.f tm (.int .i64 (.ofNat (lenL s))) fun tm' => k tm' m) = some r from h)
          exact fin_step hd h (step_len_str hE ho hc hargs ht hdd hx e)
        | slice el =>
          have hy : Yl (fun k : Nat → R => avSlc (p.f tm) (fun _ _ n _ => k n) (fun n _ => k n)) := yl_avSlc _ (fun _ _ n _ => yl_pure n) fun n _ => yl_pure n
          obtain ⟨n, hn, h⟩ := hy (fun n => d.f tm (.int .i64 (.ofNat n)) fun tm' => k tm' m) _ h
          exact fin_step hd h (step_len_slc hE ho hc hargs ht hdd hx hn)
        | _ => exact (noC_no h).elim
      | cap =>
        obtain ⟨dd, hdd, h⟩ := withO_some h
        cases dd with
        | slice el =>
          rcases avSlc_some (show avSlc (p.f tm) (fun b _ _ c => capKnown m b (d.f tm (.int .i64 (.ofNat c)) fun tm' => k tm' m) fun _ => none) (fun _ c => d.f tm (.int .i64 (.ofNat c)) fun tm' => k tm' m) = some r from h) with ⟨b, o', len, n, e, h1⟩ | ⟨len, n, e, h1⟩
          · have hy : Yl (fun k : Nat → R => capKnown m b (k n) (fun _ => none)) := yl_capKnown m b (yl_pure n) fun _ => yl_none
            obtain ⟨n', hn, h2⟩ := hy (fun n => d.f tm (.int .i64 (.ofNat n)) fun tm' => k tm' m) _ h1
            have e1 : capKnown m b (pn n) (fun _ => none) = pn n' := hn pn
            have : n = n' := by
              obtain ⟨x, hx', h3⟩ := orec_get (show capKnown m b (pn n) (fun _ => none) = some (VM.mk (.int .i64 (.ofNat n')) ⟨.e, 0, 0⟩) from e1)
              cases x with
              | cells vs ext =>
                cases ext with
                | none => exact pn_inj h3
                | some e => exact nomatch (show (none : R) = _ from h3)
              | _ => exact nomatch (show (none : R) = _ from h3)
            subst this
            exact fin_step hd h2 (step_cap_slc hE ho hc hargs ht hdd hx e e1)
          · exact fin_step hd h1 (step_cap_nil hE ho hc hargs ht hdd hx e)
        | _ => exact (noC_no h).elim
      | _ => exact (noC_no h).elim
    | cons y l =>
      cases l with
      | nil =>
        rw [hargs] at h
        obtain ⟨p, hx, h⟩ := withO_some (show (withO (opdC E nt x) _).f ih tm m k = some r from h)
        obtain ⟨q, hy, h⟩ := withO_some h
        obtain ⟨t, ht, h⟩ := withO_some h
        cases b with
        | append =>
          obtain ⟨dd, hdd, h⟩ := withO_some h
          obtain ⟨t1, ht1, h⟩ := withO_some h
          obtain ⟨d1, hd1, h⟩ := withO_some h
          cases dd with
          | slice el =>
            obtain ⟨n, hn, h⟩ := withO_some h
            obtain ⟨z, hz, h⟩ := withO_some h
            obtain ⟨bt, hbt, h⟩ := withO_some h
            obtain ⟨hni, h⟩ := brC_some h
            obtain ⟨hb, h⟩ := brC_some h
            obtain ⟨hlz, h⟩ := brC_some h
            exact fin_yl2 (yl2_app m n (p.f tm) (q.f tm)) hd h (fun v m' hv => step_append hE ho hc hargs ht ht1 hdd hd1 hni hn hz (nbt hlz) hbt (nble hb) hx hy hv) fun v m' hv => app_fr hv
          | _ => exact (noC_no h).elim
        | copy =>
          obtain ⟨dd, hdd, h⟩ := withO_some h
          cases dd with
          | slice el =>
            obtain ⟨n, hn, h⟩ := withO_some h
            exact fin_yl2 (yl2_copyC m n (p.f tm) (q.f tm)) hd h (fun v m' hv => step_copy hE ho hc hargs ht hdd hn hx hy hv) fun v m' hv => copy_fr hv
          | _ => exact (noC_no h).elim
        | min => exact fin_yl (yl_minMax .min (p.f tm) (q.f tm)) hd h fun v hv => step_minMax hE ho hc (.inl rfl) hargs hx hy hv
        | max => exact fin_yl (yl_minMax .max (p.f tm) (q.f tm)) hd h fun v hv => step_minMax hE ho hc (.inr rfl) hargs hx hy hv
        | _ => exact (noC_no h).elim
      | cons z l => rw [hargs] at h; exact (noC_no h).elim
theorem good_conv {sx t : TypeId} {x : Operand} {p : Opd} {ih : Fs} (ho : o.op = .convert sx t x) (hx : opdC E nt x = some p) {d : Put} (hd : dstC nt o.dst = some d) {k : TM → Mem → R} {r : VM}
    (h : (convC E d sx t p).f ih tm m k = some r) : Fin E P nt o tm m d k r := by
  obtain ⟨ds, hds, h⟩ := withO_some h
  obtain ⟨dd, hdd, h⟩ := withO_some h
  cases dd with
  | int j =>
    obtain ⟨j', n, e, h⟩ := avInt_some (show avInt (p.f tm) (fun _ n => d.f tm (.int j (j.wrap n)) fun tm' => k tm' m) = some r from h)
    exact fin_step hd h (step_convert_int hE ho hds hdd hx e)
  | float j =>
    obtain ⟨j', n, e, h⟩ := avInt_some (show avInt (p.f tm) (fun _ n => d.f tm (.oth (.float j (j.nearest n))) fun tm' => k tm' m) = some r from h)
    exact fin_step hd h (step_convert_float hE ho hds hdd hx e)
  | string =>
    cases ds with
    | string =>
      obtain ⟨s, e, h⟩ := avStr_some (show avStr (p.f tm) (fun s => d.f tm (.str s) fun tm' => k tm' m) = some r from h)
      exact fin_step hd h (step_convert_str hE ho hds hdd hx e)
    | slice e' =>
      obtain ⟨de, hde, h⟩ := withO_some (show (withO (ty E e') _).f ih tm m k = some r from h)
      cases de with
      | int j =>
        cases j with
        | u8 =>
          rcases avSlc_some (show avSlc (p.f tm) (fun b o n _ => rd m b o n fun l => toBytes l fun r => d.f tm (.str r) fun tm' => k tm' m) (fun _ _ => d.f tm (.str []) fun tm' => k tm' m) = some r from h) with ⟨b, o', n, cap, e, h1⟩ | ⟨n, cap, e, h1⟩
          · obtain ⟨l, hl, h2⟩ := yl_rd m b o' n _ _ h1
            obtain ⟨rr, hrr, h3⟩ := yl_toBytes l _ _ h2
            exact fin_step hd h3 (step_convert_bytes hE ho hds hdd hde hx e hl hrr)
          · exact fin_step hd h1 (step_convert_nobytes hE ho hds hdd hde hx e)
        | _ => exact (noC_no h).elim
      | _ => exact (noC_no h).elim
    | _ => exact (noC_no h).elim
  | slice e' =>
    obtain ⟨de, hde, h⟩ := withO_some (show (withO (ty E e') _).f ih tm m k = some r from h)
    cases de with
    | int j =>
      cases j with
      | u8 =>
        cases ds with
        | string =>
          obtain ⟨l, e, h⟩ := avStr_some (show avStr (p.f tm) (fun s => new m (.cells (bytesA s) (some 1)) fun m' => d.f tm (.slc m.nx 0 (lenL s) (lenL s)) fun tm' => k tm' m') = some r from h)
          exact fin_ylm (yl_new m (.cells (bytesA l) (some 1))) hd h (fun m' hv => step_convert_tobytes hE ho hds hdd hde hx e hv) fun m' hv => new_fr hv
        | _ => exact (noC_no h).elim
      | _ => exact (noC_no h).elim
    | _ => exact (noC_no h).elim
  | _ => exact (noC_no h).elim
omit hE in
theorem list_nil {α : Type} {a : Array α} (h : a.toList = []) : a.toList = [] := h
theorem opC_fin {ih : Fs} (hF : FsOK E P ih) {k : TM → Mem → R} {r : VM} (h : (opC E nt o).f ih tm m k = some r) : ∃ d, dstC nt o.dst = some d ∧ Fin E P nt o tm m d k r := by
  obtain ⟨d, hd, h⟩ := withO_some h
  refine ⟨d, hd, ?_⟩
  cases ho : o.op with
  | move x =>
    rw [ho] at h
    obtain ⟨p, hx, h⟩ := withO_some h
    exact fin_step hd h (step_move (.inl ho) hx)
  | assign x =>
    rw [ho] at h
    obtain ⟨p, hx, h⟩ := withO_some h
    exact fin_step hd h (step_move (.inr ho) hx)
  | pick c x y =>
    rw [ho] at h
    obtain ⟨pc, hc, h⟩ := withO_some h
    obtain ⟨px, hx, h⟩ := withO_some h
    obtain ⟨py, hy, h⟩ := withO_some h
    obtain ⟨t, e, h⟩ := avBool_some (show avBool (pc.f tm) (fun t => br t (d.f tm (px.f tm) fun tm' => k tm' m) (d.f tm (py.f tm) fun tm' => k tm' m)) = some r from h)
    have hs := step_pick (m := m) (P := P) ho hc hx hy e
    cases t with
    | true => exact fin_step hd h hs
    | false => exact fin_step hd h hs
  | alloc el =>
    rw [ho] at h
    obtain ⟨z, hz, h⟩ := withO_some h
    exact fin_ylm (yl_new m (.cells z none)) hd h (fun m' hv => step_alloc hE ho hz hv) fun m' hv => new_fr hv
  | box el x =>
    rw [ho] at h
    obtain ⟨p, hx, h⟩ := withO_some h
    obtain ⟨cs, hcs, h⟩ := yl_cellsK (p.f tm) _ _ (show (cellsK (p.f tm) fun cs => new m (.cells cs none) fun m' => d.f tm (.ptr m.nx 0) fun tm' => k tm' m') = some r from h)
    exact fin_ylm (yl_new m (.cells cs none)) hd h (fun m' hv => step_box hE ho hx hcs hv) fun m' hv => new_fr hv
  | build t ps =>
    rw [ho] at h
    obtain ⟨z, hz, h⟩ := withO_some (show (buildC E nt d t ps.toList).f ih tm m k = some r from h)
    obtain ⟨dd, hdd, h⟩ := withO_some h
    cases dd with
    | struct fs =>
      obtain ⟨pl, hpl, h⟩ := withO_some h
      obtain ⟨f, hf, h⟩ := withO_some h
      obtain ⟨cs, hcs, h⟩ := yl_fillA (f tm) z _ _ (show (fillA (f tm) z fun cs => d.f tm (.agg cs) fun tm' => k tm' m) = some r from h)
      exact fin_step hd h (step_build_struct hE ho hz hdd hpl hf hcs)
    | array n el =>
      obtain ⟨n, hn, h⟩ := withO_some h
      obtain ⟨f, hf, h⟩ := withO_some h
      obtain ⟨cs, hcs, h⟩ := yl_fillA (f tm) z _ _ (show (fillA (f tm) z fun cs => d.f tm (.agg cs) fun tm' => k tm' m) = some r from h)
      exact fin_step hd h (step_build_array hE ho hz hdd hn hf hcs)
    | _ => exact (noC_no h).elim
  | buildSlice t len ps =>
    rw [ho] at h
    obtain ⟨dd, hdd, h⟩ := withO_some (show (buildSC E nt d t len ps.toList).f ih tm m k = some r from h)
    cases dd with
    | slice el =>
      obtain ⟨n, hn, h⟩ := withO_some h
      obtain ⟨z, hz, h⟩ := withO_some h
      obtain ⟨f, hf, h⟩ := withO_some h
      obtain ⟨hbig, h⟩ := brC_some h
      obtain ⟨hlz, h⟩ := brC_some h
      obtain ⟨cs, hcs, h⟩ := yl_fillA (f tm) (repA len z) _ _ (show (fillA (f tm) (repA len z) fun cs => new m (.cells cs none) fun m' => d.f tm (.slc m.nx 0 len len) fun tm' => k tm' m') = some r from h)
      exact fin_ylm (yl_new m (.cells cs none)) hd h (fun m' hv => step_buildSlice hE ho hdd hn hz hf (nble hbig) (nbt hlz) hcs hv) fun m' hv => new_fr hv
    | _ => exact (noC_no h).elim
  | load t x =>
    rw [ho] at h
    obtain ⟨s, hs, h⟩ := withO_some h
    obtain ⟨p, hx, h⟩ := withO_some h
    exact fin_yl (yl_loadC m s (p.f tm)) hd h fun v hv => step_load hE ho hs hx hv
  | store t x y =>
    rw [ho] at h
    obtain ⟨n, hn, h⟩ := withO_some h
    obtain ⟨p, hx, h⟩ := withO_some h
    obtain ⟨q, hy, h⟩ := withO_some h
    exact fin_ylm (yl_storeC m n (p.f tm) (q.f tm)) hd h (fun m' hv => step_store hE ho hn hx hy hv) fun m' hv => store_fr hv
  | nilCheck x =>
    rw [ho] at h
    obtain ⟨p, hx, h⟩ := withO_some h
    obtain ⟨b, i, e, h⟩ := avPtr_some (show avPtr (p.f tm) (fun b o => d.f tm (.ptr b o) fun tm' => k tm' m) = some r from h)
    exact fin_step hd h (step_nilCheck ho hx e)
  | binOp b t x y z =>
    rw [ho] at h
    obtain ⟨p, hx, h⟩ := withO_some h
    obtain ⟨q, hy, h⟩ := withO_some h
    exact fin_yl (yl_binC E b t (p.f tm) (q.f tm)) hd h fun v hv => step_binOp hE ho hx hy hv
  | unOp u t x =>
    rw [ho] at h
    obtain ⟨p, hx, h⟩ := withO_some h
    exact fin_yl (yl_unC u (p.f tm)) hd h fun v hv => step_unOp hE ho hx hv
  | convert s t x =>
    rw [ho] at h
    obtain ⟨p, hx, h⟩ := withO_some h
    exact good_conv hE ho hx hd h
  | makeFunc f fs b =>
    rw [ho] at h
    cases f with
    | func f =>
      cases hfs : fs.toList with
      | nil =>
        have h : (match Fn.func f, fs.toList with
          | .func f, [] => withO (opdsC E nt b.toList) fun b => (⟨fun _ tm m k => d.f tm (.fn f (b.f tm)) fun tm' => k tm' m⟩ : OpC)
          | _, _ => noC).f ih tm m k = some r := h
        rw [hfs] at h
        obtain ⟨p, hb, h⟩ := withO_some (show (withO (opdsC E nt b.toList) _).f ih tm m k = some r from h)
        exact fin_step hd h (step_makeFunc ho hfs hb)
      | cons y ys =>
        have h : (match Fn.func f, fs.toList with
          | .func f, [] => withO (opdsC E nt b.toList) fun b => (⟨fun _ tm m k => d.f tm (.fn f (b.f tm)) fun tm' => k tm' m⟩ : OpC)
          | _, _ => noC).f ih tm m k = some r := h
        rw [hfs] at h
        exact (noC_no h).elim
    | _ => exact (noC_no h).elim
  | makeMap t rv =>
    rw [ho] at h
    cases rv with
    | none => exact fin_ylm (yl_new m (.map [])) hd h (fun m' hv => step_makeMap hE ho hv) fun m' hv => new_fr hv
    | some x => exact (noC_no h).elim
  | makeSlice t l c =>
    rw [ho] at h
    obtain ⟨dd, hdd, h⟩ := withO_some h
    cases dd with
    | slice el =>
      obtain ⟨p, hx, h⟩ := withO_some h
      obtain ⟨q, hy, h⟩ := withO_some h
      obtain ⟨n, hn, h⟩ := withO_some h
      obtain ⟨z, hz, h⟩ := withO_some h
      obtain ⟨bt, hbt, h⟩ := withO_some h
      obtain ⟨hb, h⟩ := brC_some h
      obtain ⟨hlz, h⟩ := brC_some h
      obtain ⟨jc, cn, ec, hc, h⟩ := natBelow_some (show natBelow (q.f tm) 100000 (fun c => natBelow (p.f tm) (Nat.succ c) fun l => new m (.cells (repA c z) none) fun m' => d.f tm (.slc m.nx 0 l c) fun tm' => k tm' m') = some r from h)
      obtain ⟨jl, ln, el', hl, h⟩ := natBelow_some h
      exact fin_ylm (yl_new m (.cells (repA cn z) none)) hd h (fun m' hv => step_makeSlice hE ho hdd hx hy hn hz hbt (nble hb) (nbt hlz) ec hc el' hl hv) fun m' hv => new_fr hv
    | _ => exact (noC_no h).elim
  | slice t x lo hi mx =>
    rw [ho] at h
    obtain ⟨p, hx, h⟩ := withO_some h
    cases mx with
    | some y => exact (noC_no h).elim
    | none =>
      obtain ⟨flo, hlo, h⟩ := withO_some (show (withO (optC E nt lo) _).f ih tm m k = some r from h)
      obtain ⟨fhi, hhi, h⟩ := withO_some h
      obtain ⟨dd, hdd, h⟩ := withO_some h
      cases dd with
      | string =>
        obtain ⟨s, e, h⟩ := avStr_some (show avStr (p.f tm) (fun s => slcStr s (flo tm) (fhi tm) fun v => d.f tm v fun tm' => k tm' m) = some r from h)
        exact fin_yl (yl_slcStr s (flo tm) (fhi tm)) hd h fun v hv => step_slice_str hE ho hdd hx hlo hhi e hv
      | slice el =>
        obtain ⟨n, hn, h⟩ := withO_some h
        rcases avSlc_some (show avSlc (p.f tm) (fun b o len cap => slcSlc m n b o len cap (flo tm) (fhi tm) fun v => d.f tm v fun tm' => k tm' m) (fun len cap => slcNil (flo tm) (fhi tm) len cap fun v => d.f tm v fun tm' => k tm' m) = some r from h) with ⟨b, o', len, cap, e, h1⟩ | ⟨len, cap, e, h1⟩
        · exact fin_yl (yl_slcSlc m n b o' len cap (flo tm) (fhi tm)) hd h1 fun v hv => step_slice_slc hE ho hdd hn hx hlo hhi e hv
        · exact fin_yl (yl_slcNil (flo tm) (fhi tm) len cap) hd h1 fun v hv => step_slice_nil hE ho hdd hn hx hlo hhi e hv
      | array len el =>
        obtain ⟨n, hn, h⟩ := withO_some h
        obtain ⟨b, o', e, h⟩ := avPtr_some (show avPtr (p.f tm) (fun b o => slcArr n len b o (flo tm) (fhi tm) fun v => d.f tm v fun tm' => k tm' m) = some r from h)
        exact fin_yl (yl_slcArr n len b o' (flo tm) (fhi tm)) hd h fun v hv => step_slice_arr hE ho hdd hn hx hlo hhi e hv
      | _ => exact (noC_no h).elim
  | fieldAddr s x f =>
    rw [ho] at h
    obtain ⟨dd, hdd, h⟩ := withO_some h
    cases dd with
    | struct fs =>
      obtain ⟨fd, hfd, h⟩ := withO_some h
      obtain ⟨p, hx, h⟩ := withO_some h
      obtain ⟨n, hn, h⟩ := withO_some h
      obtain ⟨h0, h⟩ := brC_some' h
      obtain ⟨b, i, e, h⟩ := avPtr_some (show avPtr (p.f tm) (fun b o => d.f tm (.ptr b (Nat.add o fd.offset)) fun tm' => k tm' m) = some r from h)
      refine fin_step hd h (step_fieldAddr hE ho hdd (nthL_arr hE hfd) hx hn ?_ e)
      intro e0; rw [e0] at h0; cases h0
    | _ => exact (noC_no h).elim
  | field t x f =>
    rw [ho] at h
    obtain ⟨dd, hdd, h⟩ := withO_some h
    cases dd with
    | struct fs =>
      obtain ⟨fd, hfd, h⟩ := withO_some h
      obtain ⟨p, hx, h⟩ := withO_some h
      obtain ⟨s, hs, h⟩ := withO_some h
      obtain ⟨cs, e, h⟩ := avAgg_some (show avAgg (p.f tm) (fun cs => partC s cs fd.offset fun v => d.f tm v fun tm' => k tm' m) = some r from h)
      exact fin_yl (yl_partC s cs fd.offset) hd h fun v hv => step_field hE ho hdd (nthL_arr hE hfd) hx hs e hv
    | _ => exact (noC_no h).elim
  | indexAddr t x i =>
    rw [ho] at h
    obtain ⟨dd, hdd, h⟩ := withO_some h
    obtain ⟨p, hx, h⟩ := withO_some h
    obtain ⟨q, hi, h⟩ := withO_some h
    cases dd with
    | slice el =>
      obtain ⟨n, hn, h⟩ := withO_some h
      rcases avSlc_some (show avSlc (p.f tm) (fun b o len _ => natBelow (q.f tm) len fun j => d.f tm (.ptr b (Nat.add o (Nat.mul j n))) fun tm' => k tm' m) (fun _ _ => none) = some r from h) with ⟨b, o', len, cap, e, h1⟩ | ⟨_, _, _, h1⟩
      · obtain ⟨j, jn, ej, hj, h1⟩ := natBelow_some h1
        exact fin_step hd h1 (step_indexAddr_slice hE ho hdd hx hi hn e ej hj)
      · exact nomatch h1
    | array len el =>
      obtain ⟨n, hn, h⟩ := withO_some h
      obtain ⟨b, o', e, h⟩ := avPtr_some (show avPtr (p.f tm) (fun b o => natBelow (q.f tm) len fun j => d.f tm (.ptr b (Nat.add o (Nat.mul j n))) fun tm' => k tm' m) = some r from h)
      obtain ⟨j, jn, ej, hj, h1⟩ := natBelow_some h
      exact fin_step hd h1 (step_indexAddr_array hE ho hdd hx hi hn e ej hj)
    | _ => exact (noC_no h).elim
  | index t x i =>
    rw [ho] at h
    obtain ⟨dd, hdd, h⟩ := withO_some h
    obtain ⟨p, hx, h⟩ := withO_some h
    obtain ⟨q, hi, h⟩ := withO_some h
    cases dd with
    | string =>
      obtain ⟨s, e, h⟩ := avStr_some (show avStr (p.f tm) (fun s => natBelow (q.f tm) (lenL s) fun j => orec none (fun (b : UInt8) => d.f tm (.int .u8 (.ofNat b.toNat)) fun tm' => k tm' m) (nthL s j)) = some r from h)
      obtain ⟨j, jn, ej, hj, h⟩ := natBelow_some h
      obtain ⟨b, hb, h⟩ := orec_get h
      rw [nthL_eq] at hb
      exact fin_step hd h (step_index_string hE ho hdd hx hi e ej hb)
    | array len el =>
      obtain ⟨n, hn, h⟩ := withO_some h
      obtain ⟨s, hs, h⟩ := withO_some h
      obtain ⟨cs, e, h⟩ := avAgg_some (show avAgg (p.f tm) (fun cs => natBelow (q.f tm) len fun j => partC s cs (Nat.mul j n) fun v => d.f tm v fun tm' => k tm' m) = some r from h)
      obtain ⟨j, jn, ej, hj, h⟩ := natBelow_some h
      exact fin_yl (yl_partC s cs (Nat.mul jn n)) hd h fun v hv => step_index_array hE ho hdd hx hi hn hs e ej hj hv
    | _ => exact (noC_no h).elim
  | lookup t x y ok =>
    rw [ho] at h
    obtain ⟨p, hx, h⟩ := withO_some h
    obtain ⟨q, hy, h⟩ := withO_some h
    obtain ⟨dd, hdd, h⟩ := withO_some (show (lookC E d t p q ok).f ih tm m k = some r from h)
    cases dd with
    | map kt el =>
      obtain ⟨dk, hdk, h⟩ := withO_some h
      obtain ⟨z, hz, h⟩ := withO_some h
      obtain ⟨hkk, h⟩ := brC_some h
      rcases avMap_some (show avMap (p.f tm) _ _ = some r from h) with ⟨rr, e, h1⟩ | ⟨e, h1⟩
      · obtain ⟨b, hb, h2⟩ := orec_get h1
        cases b with
        | map es =>
          obtain ⟨f, hf, h3⟩ := yl_findM dk (q.f tm) es _ _ h2
          exact fin_step hd h3 (step_lookup hE ho hdd hdk hkk hz hx hy e hb hf)
        | _ => exact nomatch (show (none : R) = _ from h2)
      · exact fin_step hd h1 (step_lookup_nil (q := q) hE ho hdd hdk hkk hz hx e)
    | _ => exact (noC_no h).elim
  | mapUpdate t x y z =>
    rw [ho] at h
    obtain ⟨p, hx, h⟩ := withO_some h
    obtain ⟨q, hy, h⟩ := withO_some h
    obtain ⟨s, hz, h⟩ := withO_some h
    obtain ⟨dd, hdd, h⟩ := withO_some h
    cases dd with
    | map kt el =>
      obtain ⟨dk, hdk, h⟩ := withO_some h
      obtain ⟨hkk, h⟩ := brC_some h
      rcases avMap_some (show avMap (p.f tm) _ _ = some r from h) with ⟨rr, e, h1⟩ | ⟨_, h1⟩
      · obtain ⟨b, hb, h2⟩ := orec_get h1
        cases b with
        | map es =>
          obtain ⟨es', hes, h3⟩ := yl_updM dk (q.f tm) (s.f tm) es _ _ h2
          exact fin_ylm (yl_put m rr (.map es')) hd h3 (fun m' hv => step_mapUpdate hE ho hdd hdk hkk hx hy hz e hb hes hv) fun m' hv => put_fr hv
        | _ => exact nomatch (show (none : R) = _ from h2)
      · exact nomatch h1
    | _ => exact (noC_no h).elim
  | extract x i =>
    rw [ho] at h
    obtain ⟨p, hx, h⟩ := withO_some h
    obtain ⟨vs, e, h⟩ := avTup_some (show avTup (p.f tm) (fun vs => dropA i vs fun l => avCons l fun v _ => d.f tm v fun tm' => k tm' m) = some r from h)
    have hy : Yl (fun k : AV → R => dropA i vs fun l => avCons l fun v _ => k v) := yl_bind (yl_dropA i vs) fun l => yl_avCons l fun v _ => yl_pure v
    exact fin_yl hy hd h fun v hv => step_extract ho hx e hv
  | call c =>
    rw [ho] at h
    cases hc : c.callee with
    | builtin b =>
      have h : (match c.callee with
        | .builtin b => bltnC E nt d b c.argTypes.toList c.args.toList
        | .value f => withO (opdC E nt f) fun f => withO (opdsC E nt c.args.toList) fun a => callC d f a
        | .invoke _ _ => noC).f ih tm m k = some r := h
      rw [hc] at h
      exact good_bltn hE ho hc hd h
    | value x =>
      have h : (match c.callee with
        | .builtin b => bltnC E nt d b c.argTypes.toList c.args.toList
        | .value f => withO (opdC E nt f) fun f => withO (opdsC E nt c.args.toList) fun a => callC d f a
        | .invoke _ _ => noC).f ih tm m k = some r := h
      rw [hc] at h
      obtain ⟨pf, hx, h⟩ := withO_some (show (withO (opdC E nt x) _).f ih tm m k = some r from h)
      obtain ⟨pa, ha, h⟩ := withO_some h
      exact good_call hE hF ho hc hx ha hd h
    | invoke x s =>
      have h : (match c.callee with
        | .builtin b => bltnC E nt d b c.argTypes.toList c.args.toList
        | .value f => withO (opdC E nt f) fun f => withO (opdsC E nt c.args.toList) fun a => callC d f a
        | .invoke _ _ => noC).f ih tm m k = some r := h
      rw [hc] at h
      exact (noC_no h).elim
  | _ => rw [ho] at h; exact (noC_no h).elim
theorem opC_ok {ih : Fs} (hF : FsOK E P ih) {k : TM → Mem → R} {r : VM} (h : (opC E nt o).f ih tm m k = some r) : ∃ tm' m', k tm' m' = some r ∧ Good E P nt o tm m tm' m' ∧ MemFr m m' := by
  obtain ⟨d, hd, hf⟩ := opC_fin hE hF h
  exact good_of_fin hd hf
end
end Go.Rx
