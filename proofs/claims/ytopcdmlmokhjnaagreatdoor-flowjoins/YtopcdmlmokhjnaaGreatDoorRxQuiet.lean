/-
  Operations that look at no memory, and loads: wherever memory stands.
-/
import Derived.Test.YtopcdmlmokhjnaaGreatDoorRxFn
set_option linter.unusedVariables false
set_option linter.unusedSimpArgs false
set_option linter.unusedSectionVars false
namespace Go.Rx
section
variable {E : Env} {P : Program} {nt : Nat} {o : Oper} {tm : TM} {m : Mem} (hE : EnvOK E P)
/-- a value that is put, memory as it was, whatever it was -/
def FinQ (E : Env) (P : Program) (nt : Nat) (o : Oper) (tm : TM) (m : Mem) (d : Put) (k : TM → Mem → R) (r : VM) : Prop := ∃ v, (d.f tm v fun tm' => k tm' m) = some r ∧ ∀ m2, GoodV E P nt o tm m2 v m2
theorem finq_step {v : AV} {d : Put} {k : TM → Mem → R} {r : VM} (hr : d.f tm v (fun tm' => k tm' m) = some r) (h : ∀ m2, Step E P nt o tm m2 v m2) : FinQ E P nt o tm m d k r := ⟨v, hr, fun m2 => goodV_of_step (h m2)⟩
theorem finq_yl {g : (AV → R) → R} (hy : Yl g) {d : Put} {k : TM → Mem → R} {r : VM} (h : (g fun v => d.f tm v fun tm' => k tm' m) = some r) (hs : ∀ v, (∀ k', g k' = k' v) → ∀ m2, Step E P nt o tm m2 v m2) : FinQ E P nt o tm m d k r := by
  obtain ⟨v, hv, h⟩ := hy _ _ h
  exact finq_step h (hs v hv)
include hE
theorem quiet_fin {ih : Fs} (hq : quiet o.op = true) {k : TM → Mem → R} {r : VM} (h : (opC E nt o).f ih tm m k = some r) : ∃ d, dstC nt o.dst = some d ∧ FinQ E P nt o tm m d k r := by
  obtain ⟨d, hd, h⟩ := withO_some h
  refine ⟨d, hd, ?_⟩
  cases ho : o.op with
  | move x =>
    rw [ho] at h
    obtain ⟨p, hx, h⟩ := withO_some h
    exact finq_step h fun m2 => step_move (.inl ho) hx
  | assign x =>
    rw [ho] at h
    obtain ⟨p, hx, h⟩ := withO_some h
    exact finq_step h fun m2 => step_move (.inr ho) hx
  | pick c x y =>
    rw [ho] at h
    obtain ⟨pc, hc, h⟩ := withO_some h
    obtain ⟨px, hx, h⟩ := withO_some h
    obtain ⟨py, hy, h⟩ := withO_some h
    obtain ⟨t, e, h⟩ := avBool_some (show avBool (pc.f tm) (fun t => br t (d.f tm (px.f tm) fun tm' => k tm' m) (d.f tm (py.f tm) fun tm' => k tm' m)) = some r from h)
    cases t with
    | true => exact finq_step h fun m2 => step_pick (m := m2) (P := P) ho hc hx hy e
    | false => exact finq_step h fun m2 => step_pick (m := m2) (P := P) ho hc hx hy e
  | build t ps =>
    rw [ho] at h
    obtain ⟨z, hz, h⟩ := withO_some (show (buildC E nt d t ps.toList).f ih tm m k = some r from h)
    obtain ⟨dd, hdd, h⟩ := withO_some h
    cases dd with
    | struct fs =>
      obtain ⟨pl, hpl, h⟩ := withO_some h
      obtain ⟨f, hf, h⟩ := withO_some h
      obtain ⟨cs, hcs, h⟩ := yl_fillA (f tm) z _ _ (show (fillA (f tm) z fun cs => d.f tm (.agg cs) fun tm' => k tm' m) = some r from h)
      exact finq_step h fun m2 => step_build_struct hE ho hz hdd hpl hf hcs
    | array n el =>
      obtain ⟨n, hn, h⟩ := withO_some h
      obtain ⟨f, hf, h⟩ := withO_some h
      obtain ⟨cs, hcs, h⟩ := yl_fillA (f tm) z _ _ (show (fillA (f tm) z fun cs => d.f tm (.agg cs) fun tm' => k tm' m) = some r from h)
      exact finq_step h fun m2 => step_build_array hE ho hz hdd hn hf hcs
    | _ => exact (noC_no h).elim
  | nilCheck x =>
    rw [ho] at h
    obtain ⟨p, hx, h⟩ := withO_some h
    obtain ⟨b, i, e, h⟩ := avPtr_some (show avPtr (p.f tm) (fun b o => d.f tm (.ptr b o) fun tm' => k tm' m) = some r from h)
    exact finq_step h fun m2 => step_nilCheck ho hx e
  | binOp b t x y z =>
    rw [ho] at h
    obtain ⟨p, hx, h⟩ := withO_some h
    obtain ⟨q, hy, h⟩ := withO_some h
    exact finq_yl (yl_binC E b t (p.f tm) (q.f tm)) h fun v hv m2 => step_binOp hE ho hx hy hv
  | unOp u t x =>
    rw [ho] at h
    obtain ⟨p, hx, h⟩ := withO_some h
    exact finq_yl (yl_unC u (p.f tm)) h fun v hv m2 => step_unOp hE ho hx hv
  | makeFunc f fs b =>
    rw [ho] at h
    cases f with
    | func f =>
      cases hfs : fs.toList with
      | nil =>
        have h : (match Fn.func f, fs.toList with
          | .func f, [] => withO (opdsC E nt b.toList) fun b => (⟨fun _ tm m k => d.f tm (.fn f (b.f tm)) fun tm' => k tm' m⟩ : OpC)
          | _, _ => noC).f ih tm m k = some r := h
        rw [hfs] at h
        obtain ⟨p, hb, h⟩ := withO_some (show (withO (opdsC E nt b.toList) _).f ih tm m k = some r from h)
        exact finq_step h fun m2 => step_makeFunc ho hfs hb
      | cons y ys =>
        have h : (match Fn.func f, fs.toList with
          | .func f, [] => withO (opdsC E nt b.toList) fun b => (⟨fun _ tm m k => d.f tm (.fn f (b.f tm)) fun tm' => k tm' m⟩ : OpC)
          | _, _ => noC).f ih tm m k = some r := h
        rw [hfs] at h
        exact (noC_no h).elim
    | _ => exact (noC_no h).elim
  | fieldAddr s x f =>
    rw [ho] at h
    obtain ⟨dd, hdd, h⟩ := withO_some h
    cases dd with
    | struct fs =>
      obtain ⟨fd, hfd, h⟩ := withO_some h
      obtain ⟨p, hx, h⟩ := withO_some h
      obtain ⟨n, hn, h⟩ := withO_some h
      obtain ⟨h0, h⟩ := brC_some' h
      obtain ⟨b, i, e, h⟩ := avPtr_some (show avPtr (p.f tm) (fun b o => d.f tm (.ptr b (Nat.add o fd.offset)) fun tm' => k tm' m) = some r from h)
      refine finq_step h fun m2 => step_fieldAddr hE ho hdd (nthL_arr hE hfd) hx hn ?_ e
      intro e0; rw [e0] at h0; cases h0
    | _ => exact (noC_no h).elim
  | field t x f =>
    rw [ho] at h
    obtain ⟨dd, hdd, h⟩ := withO_some h
    cases dd with
    | struct fs =>
      obtain ⟨fd, hfd, h⟩ := withO_some h
      obtain ⟨p, hx, h⟩ := withO_some h
      obtain ⟨s, hs, h⟩ := withO_some h
      obtain ⟨cs, e, h⟩ := avAgg_some (show avAgg (p.f tm) (fun cs => partC s cs fd.offset fun v => d.f tm v fun tm' => k tm' m) = some r from h)
      exact finq_yl (yl_partC s cs fd.offset) h fun v hv m2 => step_field hE ho hdd (nthL_arr hE hfd) hx hs e hv
    | _ => exact (noC_no h).elim
  | indexAddr t x i =>
    rw [ho] at h
    obtain ⟨dd, hdd, h⟩ := withO_some h
    obtain ⟨p, hx, h⟩ := withO_some h
    obtain ⟨q, hi, h⟩ := withO_some h
    cases dd with
    | slice el =>
      obtain ⟨n, hn, h⟩ := withO_some h
      rcases avSlc_some (show avSlc (p.f tm) (fun b o len _ => natBelow (q.f tm) len fun j => d.f tm (.ptr b (Nat.add o (Nat.mul j n))) fun tm' => k tm' m) (fun _ _ => none) = some r from h) with ⟨b, o', len, cap, e, h1⟩ | ⟨_, _, _, h1⟩
      · obtain ⟨j, jn, ej, hj, h1⟩ := natBelow_some h1
        exact finq_step h1 fun m2 => step_indexAddr_slice hE ho hdd hx hi hn e ej hj
      · exact nomatch h1
    | array len el =>
      obtain ⟨n, hn, h⟩ := withO_some h
      obtain ⟨b, o', e, h⟩ := avPtr_some (show avPtr (p.f tm) (fun b o => natBelow (q.f tm) len fun j => d.f tm (.ptr b (Nat.add o (Nat.mul j n))) fun tm' => k tm' m) = some r from h)
      obtain ⟨j, jn, ej, hj, h1⟩ := natBelow_some h
      exact finq_step h1 fun m2 => step_indexAddr_array hE ho hdd hx hi hn e ej hj
    | _ => exact (noC_no h).elim
  | index t x i =>
    rw [ho] at h
    obtain ⟨dd, hdd, h⟩ := withO_some h
    obtain ⟨p, hx, h⟩ := withO_some h
    obtain ⟨q, hi, h⟩ := withO_some h
    cases dd with
    | string =>
      obtain ⟨s, e, h⟩ := avStr_some (show avStr (p.f tm) (fun s => natBelow (q.f tm) (lenL s) fun j => orec none (fun (b : UInt8) => d.f tm (.int .u8 (.ofNat b.toNat)) fun tm' => k tm' m) (nthL s j)) = some r from h)
      obtain ⟨j, jn, ej, hj, h⟩ := natBelow_some h
      obtain ⟨b, hb, h⟩ := orec_get h
      rw [nthL_eq] at hb
      exact finq_step h fun m2 => step_index_string hE ho hdd hx hi e ej hb
    | array len el =>
      obtain ⟨n, hn, h⟩ := withO_some h
      obtain ⟨s, hs, h⟩ := withO_some h
      obtain ⟨cs, e, h⟩ := avAgg_some (show avAgg (p.f tm) (fun cs => natBelow (q.f tm) len fun j => partC s cs (Nat.mul j n) fun v => d.f tm v fun tm' => k tm' m) = some r from h)
      obtain ⟨j, jn, ej, hj, h⟩ := natBelow_some h
      exact finq_yl (yl_partC s cs (Nat.mul jn n)) h fun v hv m2 => step_index_array hE ho hdd hx hi hn hs e ej hj hv
    | _ => exact (noC_no h).elim
  | extract x i =>
    rw [ho] at h
    obtain ⟨p, hx, h⟩ := withO_some h
    obtain ⟨vs, e, h⟩ := avTup_some (show avTup (p.f tm) (fun vs => dropA i vs fun l => avCons l fun v _ => d.f tm v fun tm' => k tm' m) = some r from h)
    have hy : Yl (fun k : AV → R => dropA i vs fun l => avCons l fun v _ => k v) := yl_bind (yl_dropA i vs) fun l => yl_avCons l fun v _ => yl_pure v
    exact finq_yl hy h fun v hv m2 => step_extract ho hx e hv
  | call c =>
    rw [ho] at h
    cases hc : c.callee with
    | builtin b =>
      have h : (match c.callee with
        | .builtin b => bltnC E nt d b c.argTypes.toList c.args.toList
        | .value f => withO (opdC E nt f) fun f => withO (opdsC E nt c.args.toList) fun a => callC d f a
        | .invoke _ _ => noC).f ih tm m k = some r := h
      rw [hc] at h
      have h : (bltnC E nt d b c.argTypes.toList c.args.toList).f ih tm m k = some r := h
      cases hargs : c.args.toList with
      | nil => rw [hargs] at h; exact (noC_no h).elim
      | cons x l =>
        cases l with
        | nil =>
          rw [hargs] at h
          obtain ⟨p, hx, h⟩ := withO_some (show (withO (opdC E nt x) _).f ih tm m k = some r from h)
          obtain ⟨t, ht, h⟩ := withO_some h
          cases b with
          | len =>
            obtain ⟨dd, hdd, h⟩ := withO_some (show (lenC E d t p).f ih tm m k = some r from h)
            cases dd with
            | array n el => exact finq_step h fun m2 => step_len_array hE ho hc hargs ht hdd
            | pointer q =>
              obtain ⟨dq, hdq, h⟩ := withO_some h
              cases dq with
              | array n el => exact finq_step h fun m2 => step_len_parray hE ho hc hargs ht hdd hdq
              | _ => exact (noC_no h).elim
            | string =>
              obtain ⟨s, e, h⟩ := avStr_some (show avStr (p.f tm) (fun s => d.f tm (.int .i64 (.ofNat (lenL s))) fun tm' => k tm' m) = some r from h)
              exact finq_step h fun m2 => step_len_str hE ho hc hargs ht hdd hx e
            | slice el =>
              have hy : Yl (fun k : Nat → R => avSlc (p.f tm) (fun _ _ n _ => k n) (fun n _ => k n)) := yl_avSlc _ (fun _ _ n _ => yl_pure n) fun n _ => yl_pure n
              obtain ⟨n, hn, h⟩ := hy (fun n => d.f tm (.int .i64 (.ofNat n)) fun tm' => k tm' m) _ h
              exact finq_step h fun m2 => step_len_slc hE ho hc hargs ht hdd hx hn
            | _ => exact (noC_no h).elim
          | cap => rw [ho] at hq; obtain ⟨callee, _, _⟩ := c; cases hc; cases hq
          | _ => exact (noC_no h).elim
        | cons y l =>
          cases l with
          | nil =>
            rw [hargs] at h
            obtain ⟨p, hx, h⟩ := withO_some (show (withO (opdC E nt x) _).f ih tm m k = some r from h)
            obtain ⟨q, hy, h⟩ := withO_some h
            obtain ⟨t, ht, h⟩ := withO_some h
            cases b with
            | min => exact finq_yl (yl_minMax .min (p.f tm) (q.f tm)) h fun v hv m2 => step_minMax hE ho hc (.inl rfl) hargs hx hy hv
            | max => exact finq_yl (yl_minMax .max (p.f tm) (q.f tm)) h fun v hv m2 => step_minMax hE ho hc (.inr rfl) hargs hx hy hv
            | append => rw [ho] at hq; obtain ⟨callee, _, _⟩ := c; cases hc; cases hq
            | copy => rw [ho] at hq; obtain ⟨callee, _, _⟩ := c; cases hc; cases hq
            | _ => exact (noC_no h).elim
          | cons z l => rw [hargs] at h; exact (noC_no h).elim
    | value x => rw [ho] at hq; obtain ⟨callee, _, _⟩ := c; cases hc; cases hq
    | invoke x s => rw [ho] at hq; obtain ⟨callee, _, _⟩ := c; cases hc; cases hq
  | _ => rw [ho] at hq; cases hq
/-- a load: wherever its block lies as it does here -/
theorem load_fin {ih : Fs} {t : TypeId} {x : Operand} (ho : o.op = .load t x) {k : TM → Mem → R} {r : VM} (h : (opC E nt o).f ih tm m k = some r) : ∃ d p b i y, dstC nt o.dst = some d ∧ opdC E nt x = some p ∧ p.f tm = .ptr b i ∧ m.hp.get b = some y ∧
    ∃ v, (d.f tm v fun tm' => k tm' m) = some r ∧ ∀ m2 : Mem, m2.hp.get b = m.hp.get b → GoodV E P nt o tm m2 v m2 := by
  obtain ⟨d, hd, h⟩ := withO_some h
  rw [ho] at h
  obtain ⟨s, hs, h⟩ := withO_some h
  obtain ⟨p, hx, h⟩ := withO_some h
  obtain ⟨v, hv, h⟩ := yl_loadC m s (p.f tm) _ _ (show (loadC s m (p.f tm) fun v => d.f tm v fun tm' => k tm' m) = some r from h)
  obtain ⟨b, i, e, h1⟩ := avPtr_some (show avPtr (p.f tm) _ = some (VM.mk v ⟨.e, 0, 0⟩) from hv pv)
  have hb : ∃ y, m.hp.get b = some y := by
    cases s with
    | one => obtain ⟨y, hy, _⟩ := orec_get (show orec none _ (m.hp.get b) = some _ from h1); exact ⟨y, hy⟩
    | many n => obtain ⟨y, hy, _⟩ := orec_get (show orec none _ (m.hp.get b) = some _ from h1); exact ⟨y, hy⟩
  obtain ⟨y, hy⟩ := hb
  refine ⟨d, p, b, i, y, hd, hx, e, hy, v, h, fun m2 he => goodV_of_step (step_load hE ho hs hx fun k => ?_)⟩
  rw [← hv k, e]
  cases s with
  | one => show rd1 m2 b i k = rd1 m b i k; unfold rd1; rw [he]
  | many n => show rd m2 b i n _ = rd m b i n _; unfold rd; rw [he]
end
end Go.Rx
