/-
  Each operation of the executor, and the model's.
-/
import Derived.Test.YtopcdmlmokhjnaaGreatDoorRxYl
import Derived.Laws.Sem
set_option linter.unusedVariables false
namespace Go.Rx

structure EnvOK (E : Env) (P : Program) : Prop where
  types : ∀ t i, E.types.get t = some i → P.info? t = some i
  funcs : ∀ f fn, E.funcs.get f = some fn → P.funcs[f]? = some fn
  call : ∀ f fn, E.funcs.get f = some fn → fn.body.isSome = true → ∀ args w, (callFunc f args).run P w = .ok (.enter f args) w
  ext0 : ∀ f, E.ext f = some 0 → ∀ b w, (callFunc f #[.float .f64 b]).run P w = .ok (.value (.int .u64 b)) w
  ext1 : ∀ f, E.ext f = some 1 → ∀ (n : Int) w, (callFunc f #[.int .u64 n]).run P w = .ok (.value (.float .f64 n.toNat)) w
  plain : ∀ t, E.plain t = true → P.eqGuardType P.depth t = false
  mixed : P.follows .mixedOrders = true

/-- the variables of packages lie where they lie -/
def Glob (E : Env) (ρ : Ren) : Prop := ∀ g, g < E.ng → ρ g = some ⟨g, 0, none⟩
theorem Glob.mono {E : Env} {ρ ρ' : Ren} (h : Glob E ρ) (hle : Ren.le ρ ρ') : Glob E ρ' := fun g hg => hle _ _ (h g hg)

section env
variable {E : Env} {P : Program} (hE : EnvOK E P) {t : TypeId} (w : World)
include hE
theorem ty_ok {d : TypeDesc} (h : ty E t = some d) : P.underlying t = some d := by
  obtain ⟨i, hi, h⟩ := orec_get h
  unfold Program.underlying
  rw [hE.types t i hi]
  obtain ⟨desc, str, size, bytes, hp, al, fa, zero, cm, ms⟩ := i
  cases desc with
  | named n u =>
    obtain ⟨j, hj, h⟩ := orec_get (show orec none (fun (j : TypeInfo) => some j.desc) (E.types.get u) = some d from h)
    cases h
    simp only [hE.types u j hj, Option.map_some]
  | _ => exact h
theorem run_und {d : TypeDesc} (h : ty E t = some d) : (underlying t).run P w = .ok d w := by
  simp [underlying, ty_ok hE h]
theorem sz_ok {n : Nat} (h : sz E t = some n) : (sizeOf t).run P w = .ok n w := by
  obtain ⟨i, hi, h⟩ := orec_get h
  cases h
  simp [sizeOf, typeInfo, hE.types t i hi]
theorem byt_ok {n : Nat} (h : byt E t = some n) : ∃ i, (typeInfo t).run P w = .ok i w ∧ i.bytes = n := by
  obtain ⟨i, hi, h⟩ := orec_get h
  cases h
  exact ⟨i, by simp [typeInfo, hE.types t i hi], rfl⟩
theorem zr_ok {z : AV} (h : zr E t = some z) (ρ : Ren) : ∃ v, (zeroValue t).run P w = .ok v w ∧ VR ρ z v := by
  obtain ⟨i, hi, h⟩ := orec_get h
  obtain ⟨v, hv, h⟩ := orec_get h
  obtain ⟨hc, h⟩ := br_none h
  cases h
  exact ⟨v, by simp [zeroValue, typeInfo, hE.types t i hi, hv], ofVal_vr v hc⟩
theorem zc_ok {z : AV} (h : zc E t = some z) (ρ : Ren) : ∃ v, (zeroValue t).run P w = .ok v w ∧ LR ρ z v.cells.toList ∧ ∀ x ∈ v.cells.toList, x.oneCell' = true := by
  obtain ⟨i, hi, h⟩ := orec_get h
  obtain ⟨v, hv, h⟩ := orec_get h
  refine ⟨v, by simp [zeroValue, typeInfo, hE.types t i hi, hv], ?_⟩
  by_cases hag : ∃ cs, v = .agg cs
  · obtain ⟨cs, rfl⟩ := hag
    obtain ⟨hc, h⟩ := br_none (show br (constOk (.agg cs)) (some (ofList' ofFlat cs.toList)) none = some z from h)
    cases h
    exact ⟨ofList'_lr _ (constOk_agg hc), constOk_agg hc⟩
  · have hag' : ∀ cs, v ≠ .agg cs := fun cs e => hag ⟨cs, e⟩
    have hcell : v.cells.toList = [v] := by cases v <;> first | rfl | exact absurd rfl (hag' _)
    have h1 : z = .cons (ofFlat v) .nl ∧ v.oneCell' = true := by
      cases v with
      | agg cs => exact absurd rfl (hag' cs)
      | tuple vs => exact nomatch (show (none : Option AV) = some z from h)
      | _ => cases h; exact ⟨rfl, rfl⟩
    rw [hcell, h1.1]
    exact ⟨.cons (ofFlat_vr v hag') .nl, by simp [h1.2]⟩
theorem shape_one (h : shape E t = some .one) : (isAgg t).run P w = .ok false w := by
  obtain ⟨d, hd, h⟩ := orec_get h
  have hu := run_und hE w hd
  have : isAgg t = (underlying t >>= fun d => match d with | .struct _ | .array _ _ => pure true | _ => pure false) := rfl
  rw [this, Sem.run_bind, hu, Result.andThen_ok]
  cases d with
  | struct fs => obtain ⟨n, hn, h⟩ := orec_get (show orec none (fun n => some (Shape.many n)) (sz E t) = some Shape.one from h); cases h
  | array n e => obtain ⟨n, hn, h⟩ := orec_get (show orec none (fun n => some (Shape.many n)) (sz E t) = some Shape.one from h); cases h
  | _ => rfl
theorem shape_many {n : Nat} (h : shape E t = some (.many n)) : (isAgg t).run P w = .ok true w ∧ (sizeOf t).run P w = .ok n w := by
  obtain ⟨d, hd, h⟩ := orec_get h
  have hu := run_und hE w hd
  have : isAgg t = (underlying t >>= fun d => match d with | .struct _ | .array _ _ => pure true | _ => pure false) := rfl
  rw [this, Sem.run_bind, hu, Result.andThen_ok]
  cases d with
  | struct fs =>
    obtain ⟨n, hn, h⟩ := orec_get (show orec none (fun n => some (Shape.many n)) (sz E t) = some (Shape.many n) from h)
    cases h; exact ⟨rfl, sz_ok hE w hn⟩
  | array k e =>
    obtain ⟨n, hn, h⟩ := orec_get (show orec none (fun n => some (Shape.many n)) (sz E t) = some (Shape.many n) from h)
    cases h; exact ⟨rfl, sz_ok hE w hn⟩
  | _ => exact nomatch (show some Shape.one = some (Shape.many n) from h)
end env

/-! ### Operands, and where a value goes -/
section
variable {E : Env} {nt : Nat} {ρ : Ren} {tm : TM} {a : Act}
theorem opdC_ok {x : Operand} {p : Opd} (h : opdC E nt x = some p) (hG : Glob E ρ) (ht : TmR ρ nt tm a.tmps) : VR ρ (p.f tm) (a.eval x) := by
  cases x with
  | tmp t =>
    obtain ⟨h1, h⟩ := br_none (show br (Nat.blt t nt) (br (Nat.blt t 512) (some (getC t)) none) none = some p from h)
    obtain ⟨h2, h⟩ := br_none h
    cases h
    rw [getC_f]
    exact ht.2 t (nblt h1) (nblt h2)
  | const v =>
    obtain ⟨h1, h⟩ := br_none (show br (constOk v) (some (Opd.mk fun _ => ofVal v)) none = some p from h)
    cases h
    exact ofVal_vr v h1
  | global g =>
    obtain ⟨h1, h⟩ := br_none (show br (Nat.blt g E.ng) (some (Opd.mk fun _ => .ptr g 0)) none = some p from h)
    cases h
    exact VR.ptr (l := ⟨g, 0, none⟩) (hG g (nblt h1))
  | func f => cases h; exact VR.fn LR.nl
theorem opdsC_ok {xs : List Operand} {p : Opd} (h : opdsC E nt xs = some p) (hG : Glob E ρ) (ht : TmR ρ nt tm a.tmps) : LR ρ (p.f tm) (xs.map a.eval) := by
  induction xs generalizing p with
  | nil => cases h; exact .nl
  | cons x xs ih =>
    obtain ⟨q, hq, h⟩ := orec_get (show orec none (fun (p : Opd) => orec none (fun (q : Opd) => some (Opd.mk fun tm => .cons (p.f tm) (q.f tm))) (opdsC E nt xs)) (opdC E nt x) = some p from h)
    obtain ⟨q', hq', h⟩ := orec_get h
    cases h
    exact .cons (opdC_ok hq hG ht) (ih hq')
theorem dstC_ok {d : Option Tmp} {p : Put} {v : AV} {k : TM → R} {r : VM} (h : dstC nt d = some p) (hr : p.f tm v k = some r) :
    ∃ tm', k tm' = some r ∧ ∀ (ρ : Ren) (a : Act) (v' : Value), TmR ρ nt tm a.tmps → VR ρ v v' → TmR ρ nt tm' (a.put d v').tmps ∧ (a.put d v').defers = a.defers := by
  cases d with
  | none => cases h; exact ⟨tm, hr, fun ρ a v' ht _ => ⟨ht, rfl⟩⟩
  | some t =>
    obtain ⟨h1, h⟩ := br_none (show br (Nat.blt t nt) (br (Nat.blt t 512) (some (putC t)) none) none = some p from h)
    obtain ⟨h2, h⟩ := br_none h
    cases h
    have h1 := nblt h1
    have h2 := nblt h2
    rw [putC_f h2] at hr
    refine ⟨_, hr, fun ρ a v' ht hv => ⟨⟨by simp [Act.put, ht.1], fun s hs hs2 => ?_⟩, rfl⟩⟩
    rw [getT_setT h2 hs2]
    simp only [Act.put]
    have hsz : s < a.tmps.size := by rw [ht.1]; exact hs
    by_cases e : s = t
    · subst e; rw [if_pos rfl]; simp [Array.getD, hsz]; exact hv
    · rw [if_neg e]
      have : (a.tmps.setIfInBounds t v').getD s undef = a.tmps.getD s undef := by
        simp only [Array.getD_eq_getD_getElem?, Array.getElem?_setIfInBounds]
        rw [if_neg (fun h => e h.symm)]
      rw [this]; exact ht.2 s hs hs2
theorem withO_some {α : Type} {o : Option α} {f : α → OpC} {ih : Fs} {m : Mem} {k : TM → Mem → R} {r : VM} (h : (withO o f).f ih tm m k = some r) : ∃ x, o = some x ∧ (f x).f ih tm m k = some r := by
  cases o with
  | none => exact nomatch (show (none : R) = some r from h)
  | some x => exact ⟨x, rfl, h⟩
theorem noC_no {ih : Fs} {m : Mem} {k : TM → Mem → R} {r : VM} (h : noC.f ih tm m k = some r) : False := nomatch (show (none : R) = some r from h)
theorem brC_some {b : Bool} {c : OpC} {ih : Fs} {m : Mem} {k : TM → Mem → R} {r : VM} (h : (br b c noC).f ih tm m k = some r) : b = true ∧ c.f ih tm m k = some r := by
  cases b with
  | false => exact (noC_no h).elim
  | true => exact ⟨rfl, h⟩
theorem brC_some' {b : Bool} {c : OpC} {ih : Fs} {m : Mem} {k : TM → Mem → R} {r : VM} (h : (br b noC c).f ih tm m k = some r) : b = false ∧ c.f ih tm m k = some r := by
  cases b with
  | false => exact ⟨rfl, h⟩
  | true => exact (noC_no h).elim
end

/-! ### What an operation does -/
def fence : Option Nat → Fence
  | none => Fence.wide
  | some l => Fence.wide.inRound l
/-- an operation comes to a value -/
def RunsTo (s : Sem Next) (P : Program) (w : World) (v : Value) (w' : World) : Prop := s.run P w = .ok (.value v) w' ∨ (s.run P w = .ok .skip w' ∧ v = undef)
/-- an operation's operands stand for their values -/
def OpsR (E : Env) (nt : Nat) (o : Oper) (ρ : Ren) (tm : TM) (a : Act) : Prop := ∀ x ∈ o.op.operands, ∀ p, opdC E nt x = some p → VR ρ (p.f tm) (a.eval x)
theorem opsR_of {E : Env} {nt : Nat} {o : Oper} {ρ : Ren} {tm : TM} {a : Act} (hG : Glob E ρ) (ht : TmR ρ nt tm a.tmps) : OpsR E nt o ρ tm a := fun x _ p hp => opdC_ok hp hG ht
theorem OpsR.mono {E : Env} {nt : Nat} {o : Oper} {ρ ρ' : Ren} {tm : TM} {a : Act} (hle : Ren.le ρ ρ') (h : OpsR E nt o ρ tm a) : OpsR E nt o ρ' tm a := fun x hx p hp => (h x hx p hp).mono hle
theorem opdsR {E : Env} {nt : Nat} {o : Oper} {ρ : Ren} {tm : TM} {a : Act} (ht : OpsR E nt o ρ tm a) {xs : List Operand} (hm : ∀ x ∈ xs, x ∈ o.op.operands) {p : Opd} (h : opdsC E nt xs = some p) : LR ρ (p.f tm) (xs.map a.eval) := by
  induction xs generalizing p with
  | nil => cases h; exact .nl
  | cons x xs ih =>
    obtain ⟨q, hq, h⟩ := orec_get (show orec none (fun (p : Opd) => orec none (fun (q : Opd) => some (Opd.mk fun tm => .cons (p.f tm) (q.f tm))) (opdsC E nt xs)) (opdC E nt x) = some p from h)
    obtain ⟨q', hq', h⟩ := orec_get h
    cases h
    exact .cons (ht x (hm x (by simp)) q hq) (ih (fun y hy => hm y (by simp [hy])) hq')
theorem mem_call {o : Oper} {c : Call} (ho : o.op = .call c) {x : Operand} (h : x ∈ c.args.toList) : x ∈ o.op.operands := by
  have h' : x ∈ c.args := by simpa using h
  rw [ho]
  show x ∈ c.operands
  unfold Call.operands
  split <;> simp [h']
def Step (E : Env) (P : Program) (nt : Nat) (o : Oper) (tm : TM) (m : Mem) (v : AV) (m' : Mem) : Prop :=
  ∀ (ρ : Ren) (a : Act) (w : World), Glob E ρ → OpsR E nt o ρ tm a → Rel ρ m w → ∃ ρ' v' w', RunsTo (execOp a.eval o) P w v' w' ∧ Post ρ m w ρ' m' w' ∧ VR ρ' v v'
def GoodV (E : Env) (P : Program) (nt : Nat) (o : Oper) (tm : TM) (m : Mem) (v : AV) (m' : Mem) : Prop :=
  ∀ (rd : Option Nat) (n : Nat) (ρ : Ren) (a : Act) (w : World), Glob E ρ → OpsR E nt o ρ tm a → Rel ρ m w → ∀ (next : Act → World → Prop) (Q : Exit → Act → World → Prop),
    (∀ ρ' v' w', Post ρ m w ρ' m' w' → VR ρ' v v' → next (a.put o.dst v') w') → o.uponIn (fence rd) n P a next Q ((execOp a.eval o).run P w)
def Good (E : Env) (P : Program) (nt : Nat) (o : Oper) (tm : TM) (m : Mem) (tm' : TM) (m' : Mem) : Prop :=
  ∀ (rd : Option Nat) (n : Nat) (ρ : Ren) (a : Act) (w : World), Glob E ρ → TmR ρ nt tm a.tmps → Rel ρ m w → ∀ (next : Act → World → Prop) (Q : Exit → Act → World → Prop),
    (∀ ρ' a' w', Post ρ m w ρ' m' w' → TmR ρ' nt tm' a'.tmps → a'.defers = a.defers → next a' w') → o.uponIn (fence rd) n P a next Q ((execOp a.eval o).run P w)
theorem goodV_of_step {E : Env} {P : Program} {nt : Nat} {o : Oper} {tm : TM} {m m' : Mem} {v : AV} (h : Step E P nt o tm m v m') : GoodV E P nt o tm m v m' := by
  intro rd n ρ a w hG ht hr next Q hnext
  obtain ⟨ρ', v', w', hrun, hp, hv⟩ := h ρ a w hG ht hr
  rcases hrun with hrun | ⟨hrun, rfl⟩
  · rw [hrun]; exact hnext ρ' _ w' hp hv
  · rw [hrun]; exact hnext ρ' _ w' hp hv
/-- the executor's own heap, before and after: what lies below the mark is kept -/
structure MemFr (m m' : Mem) : Prop where
  nx : m.nx ≤ m'.nx
  lo : m'.lo ≤ m.lo
  keep : ∀ i, i < m.nx → i < m'.lo → m'.hp.get i = m.hp.get i
theorem MemFr.refl (m : Mem) : MemFr m m := ⟨Nat.le_refl _, Nat.le_refl _, fun _ _ _ => rfl⟩
theorem MemFr.trans {a b c : Mem} (h : MemFr a b) (h' : MemFr b c) : MemFr a c :=
  ⟨Nat.le_trans h.nx h'.nx, Nat.le_trans h'.lo h.lo, fun i h1 h2 => (h'.keep i (Nat.lt_of_lt_of_le h1 h.nx) h2).trans (h.keep i h1 (Nat.lt_of_lt_of_le h2 h'.lo))⟩
/-- at most one of the elder blocks is turned, and the mark tells which -/
def OneFr (m m' : Mem) : Prop := (∀ i, i < m.nx → m'.hp.get i = m.hp.get i) ∨ ∃ t, m'.lo = min m.lo t ∧ ∀ i, i < m.nx → i ≠ t → m'.hp.get i = m.hp.get i
def Fr (m m' : Mem) : Prop := MemFr m m' ∧ OneFr m m'
theorem Fr.refl (m : Mem) : Fr m m := ⟨MemFr.refl m, .inl fun _ _ => rfl⟩
/-- what an operation's run comes to: a value that is put -/
def Fin (E : Env) (P : Program) (nt : Nat) (o : Oper) (tm : TM) (m : Mem) (d : Put) (k : TM → Mem → R) (r : VM) : Prop := ∃ v m', (d.f tm v fun tm' => k tm' m') = some r ∧ GoodV E P nt o tm m v m' ∧ MemFr m m' ∧ ((∀ c x, o.op = .call c → c.callee ≠ .value x) → OneFr m m')
theorem good_of_fin {E : Env} {P : Program} {nt : Nat} {o : Oper} {tm : TM} {m : Mem} {d : Put} {k : TM → Mem → R} {r : VM} (hd : dstC nt o.dst = some d) (h : Fin E P nt o tm m d k r) : ∃ tm' m', k tm' m' = some r ∧ Good E P nt o tm m tm' m' ∧ MemFr m m' := by
  obtain ⟨v, m', hr, hg, hf, _⟩ := h
  obtain ⟨tm', hk, hput⟩ := dstC_ok hd hr
  refine ⟨tm', m', hk, fun rd n ρ a w hG ht hr next Q hnext => hg rd n ρ a w hG (opsR_of hG ht) hr next Q fun ρ' v' w' hp hv => ?_, hf⟩
  obtain ⟨h1, h2⟩ := hput ρ' a v' (ht.mono hp.le) hv
  exact hnext ρ' _ w' hp h1 h2
/-- an operation whose value is put -/
theorem fin_stepM {E : Env} {P : Program} {nt : Nat} {o : Oper} {tm : TM} {m m' : Mem} {v : AV} {d : Put} {k : TM → Mem → R} {r : VM} (hd : dstC nt o.dst = some d) (hr : d.f tm v (fun tm' => k tm' m') = some r)
    (h : Step E P nt o tm m v m') (hf : Fr m m') : Fin E P nt o tm m d k r := ⟨v, m', hr, goodV_of_step h, hf.1, fun _ => hf.2⟩
theorem fin_step {E : Env} {P : Program} {nt : Nat} {o : Oper} {tm : TM} {m : Mem} {v : AV} {d : Put} {k : TM → Mem → R} {r : VM} (hd : dstC nt o.dst = some d) (hr : d.f tm v (fun tm' => k tm' m) = some r)
    (h : Step E P nt o tm m v m) : Fin E P nt o tm m d k r := fin_stepM hd hr h (Fr.refl m)
/-! ### Frames of the executor's moves -/
theorem setLo_fr {m : Mem} {b : Nat} {x : Option Bk} {m' : Mem} (h : setLo m b (m.hp.set x b) (fun m => some (.mk .nl m)) = some (VM.mk .nl m')) : Fr m m' := by
  have key : ∀ lo, lo = min m.lo b → Fr m ⟨m.hp.set x b, m.nx, lo⟩ := by
    intro lo hlo
    refine ⟨⟨Nat.le_refl _, by show lo ≤ m.lo; omega, fun i _ h2 => Tr.get_set_ne _ _ ?_⟩, .inr ⟨b, hlo, fun i _ hne => Tr.get_set_ne _ _ hne⟩⟩
    have h2 : i < lo := h2
    omega
  rcases br_some h with ⟨hb, h⟩ | ⟨hb, h⟩
  · cases h; have hb := nble hb; exact key _ (by omega)
  · cases h; have hb := nbef hb; exact key _ (by omega)
theorem new_fr {m : Mem} {b : Bk} {m' : Mem} (h : ∀ k, new m b k = k m') : Fr m m' := by
  have e : m' = ⟨m.hp.set (some b) m.nx, Nat.succ m.nx, m.lo⟩ := by have := h fun m => some (.mk .nl m); injection this with e; injection e with _ e; exact e.symm
  subst e
  exact ⟨⟨Nat.le_succ _, Nat.le_refl _, fun i h1 _ => Tr.get_set_ne _ _ (Nat.ne_of_lt h1)⟩, .inl fun i h1 => Tr.get_set_ne _ _ (Nat.ne_of_lt h1)⟩
theorem put_fr {m : Mem} {b : Nat} {x : Bk} {m' : Mem} (h : ∀ k, put m b x k = k m') : Fr m m' := setLo_fr (h fun m => some (.mk .nl m))
theorem kill_fr {m : Mem} {b : Nat} {m' : Mem} (h : ∀ k, kill m b k = k m') : Fr m m' := setLo_fr (h fun m => some (.mk .nl m))
theorem wr_fr {m : Mem} {b o : Nat} {xs : AV} {m' : Mem} (h : ∀ k, wr m b o xs k = k m') : Fr m m' := by
  obtain ⟨x, hx, h1⟩ := orec_get (show wr m b o xs (fun m => some (.mk .nl m)) = some (VM.mk .nl m') from h _)
  cases x with
  | cells vs ext =>
    obtain ⟨vs', _, h2⟩ := yl_spliceA xs o vs _ _ (show spliceA xs o vs (fun vs' => setLo m b (m.hp.set (some (.cells vs' ext)) b) fun m => some (.mk .nl m)) = some (VM.mk .nl m') from h1)
    exact setLo_fr h2
  | _ => exact nomatch (show (none : R) = _ from h1)
theorem Fr.thenNew {m m1 m' : Mem} {b : Bk} (h : Fr m m1) (h' : ∀ k, new m1 b k = k m') : Fr m m' := by
  have e : m' = ⟨m1.hp.set (some b) m1.nx, Nat.succ m1.nx, m1.lo⟩ := by have := h' fun m => some (.mk .nl m); injection this with e; injection e with _ e; exact e.symm
  have hk : ∀ i, i < m.nx → m'.hp.get i = m1.hp.get i := fun i h1 => by subst e; exact Tr.get_set_ne _ _ (Nat.ne_of_lt (Nat.lt_of_lt_of_le h1 h.1.nx))
  refine ⟨h.1.trans (new_fr h').1, ?_⟩
  rcases h.2 with h2 | ⟨t, h2, h3⟩
  · exact .inl fun i h1 => (hk i h1).trans (h2 i h1)
  · exact .inr ⟨t, by subst e; exact h2, fun i h1 hne => (hk i h1).trans (h3 i h1 hne)⟩
/-- one that leaves memory alone -/
theorem pure_step {E : Env} {P : Program} {nt : Nat} {o : Oper} {tm : TM} {m : Mem} {v : AV}
    (h : ∀ (ρ : Ren) (a : Act) (w : World), Glob E ρ → OpsR E nt o ρ tm a → Rel ρ m w → ∃ v', (execOp a.eval o).run P w = .ok (.value v') w ∧ VR ρ v v') : Step E P nt o tm m v m := by
  intro ρ a w hG ht hr
  obtain ⟨v', hrun, hv⟩ := h ρ a w hG ht hr
  exact ⟨ρ, v', w, .inl hrun, Post.refl hr, hv⟩

/-! ### Inversions -/
section
variable {ρ : Ren} {v : Value}
theorem vr_ptr {b o : Nat} (h : VR ρ (.ptr b o) v) : ∃ l, ρ b = some l ∧ v = .pointer (some ⟨l.b, l.o + o, none⟩) := by cases h with | ptr h => exact ⟨_, h, rfl⟩
theorem vr_int {k : IntKind} {n : Int} (h : VR ρ (.int k n) v) : v = .int k n := by cases h; rfl
theorem vr_bool {b : Bool} (h : VR ρ (.bool b) v) : v = .bool b := by cases h; rfl
theorem vr_str {s : List UInt8} (h : VR ρ (.str s) v) : v = .string ⟨⟨s⟩⟩ := by cases h; rfl
theorem vr_oth {x : Value} (h : VR ρ (.oth x) v) : v = x ∧ ∀ cs, x ≠ .agg cs := by cases h with | oth _ h => exact ⟨rfl, h⟩
theorem vr_slc {b o len cap : Nat} (h : VR ρ (.slc b o len cap) v) : ∃ l cap', ρ b = some l ∧ CapR l o cap cap' ∧ v = .slice (some ⟨l.b, l.o + o, none⟩) len cap' := by
  cases h with | slc h hc => exact ⟨_, _, h, hc, rfl⟩
theorem vr_agg {cs : AV} (h : VR ρ (.agg cs) v) : ∃ l, LR ρ cs l ∧ (∀ x ∈ l, x.oneCell' = true) ∧ v = .agg ⟨l⟩ := by cases h with | agg h hc => exact ⟨_, h, hc, rfl⟩
theorem vr_tup {cs : AV} (h : VR ρ (.tup cs) v) : ∃ l, LR ρ cs l ∧ v = .tuple ⟨l⟩ := by cases h with | tup h => exact ⟨_, h, rfl⟩
theorem vr_fn {f : FuncId} {cs : AV} (h : VR ρ (.fn f cs) v) : ∃ l, LR ρ cs l ∧ v = .func (.func f) #[] ⟨l⟩ := by cases h with | fn h => exact ⟨_, h, rfl⟩
theorem vr_yld {i : Nat} (h : VR ρ (.yld i) v) : ∃ l, ρ i = some l ∧ v = .func (.yield l.b) #[] #[] := by cases h with | yld h => exact ⟨_, h, rfl⟩
theorem vr_map {i : Nat} (h : VR ρ (.map i) v) : ∃ l, ρ i = some l ∧ v = .map (some l.b) := by cases h with | map h => exact ⟨_, h, rfl⟩
end

/-! ### The operations -/
section ops
variable {E : Env} {P : Program} {nt : Nat} {o : Oper} {tm : TM} {m : Mem}
theorem step_move {x : Operand} {p : Opd} (ho : o.op = .move x ∨ o.op = .assign x) (hx : opdC E nt x = some p) : Step E P nt o tm m (p.f tm) m :=
  pure_step fun ρ a w hG ht hr => ⟨a.eval x, by rcases ho with ho | ho <;> simp [execOp, ho], ht _ (by rcases ho with ho | ho <;> simp [ho, Op.operands]) _ hx⟩
theorem step_pick {c a' b : Operand} {pc pa pb : Opd} {t : Bool} (ho : o.op = .pick c a' b) (hc : opdC E nt c = some pc) (ha : opdC E nt a' = some pa) (hb : opdC E nt b = some pb) (ht : pc.f tm = .bool t) :
    Step E P nt o tm m (if t then pa.f tm else pb.f tm) m :=
  pure_step fun ρ a w hG htm hr => by
    have hc' := (htm _ (by simp [ho, Op.operands]) _ hc)
    rw [ht] at hc'
    have ec := vr_bool hc'
    cases t with
    | true => exact ⟨a.eval a', by simp [execOp, ho, ec, asBool], (htm _ (by simp [ho, Op.operands]) _ ha)⟩
    | false => exact ⟨a.eval b, by simp [execOp, ho, ec, asBool], (htm _ (by simp [ho, Op.operands]) _ hb)⟩
theorem step_nilCheck {x : Operand} {p : Opd} {b i : Nat} (ho : o.op = .nilCheck x) (hx : opdC E nt x = some p) (e : p.f tm = .ptr b i) : Step E P nt o tm m (.ptr b i) m :=
  pure_step fun ρ a w hG ht hr => by
    have h := (ht _ (by simp [ho, Op.operands]) _ hx)
    rw [e] at h
    obtain ⟨l, hl, hv⟩ := vr_ptr h
    exact ⟨a.eval x, by simp [execOp, ho, hv], h⟩
theorem step_makeFunc {f : FuncId} {fs : Array Operand} {b : Array Operand} {p : Opd} (ho : o.op = .makeFunc (.func f) fs b) (hf : fs.toList = []) (hb : opdsC E nt b.toList = some p) : Step E P nt o tm m (.fn f (p.f tm)) m :=
  pure_step fun ρ a w hG ht hr => by
    have h := (opdsR ht (fun x hx => by rw [ho]; show x ∈ fs ++ b; exact Array.mem_append.2 (.inr (by simpa using hx))) hb)
    have e1 : fs = #[] := by cases fs; simp at hf; subst hf; rfl
    refine ⟨.func (.func f) #[] (b.map a.eval), by simp [execOp, ho, Instr.makeFunc, e1], ?_⟩
    have : (b.map a.eval) = ⟨b.toList.map a.eval⟩ := by cases b; simp
    rw [this]
    exact .fn h
theorem at_drop {ρ : Ren} {i : Nat} {vs v : AV} {l : List Value} (hv : ∀ k : AV → R, (dropA i vs fun l => avCons l fun v _ => k v) = k v) (hl : LR ρ vs l) : ∃ v', l[i]? = some v' ∧ VR ρ v v' := by
  obtain ⟨b, hb, hn, hr⟩ := dropA_some (hv fun b => some (.mk b ⟨.e, 0, 0⟩)) hl
  obtain ⟨x, t, rfl, hr⟩ := avCons_some hr
  obtain ⟨v', ms, he, hv', _⟩ := hb.get rfl
  cases hr
  refine ⟨v', ?_, hv'⟩
  have : (l.drop i)[0]? = some v' := by rw [he]; rfl
  rwa [List.getElem?_drop] at this
theorem step_extract {x : Operand} {p : Opd} {i : Nat} {v vs : AV} (ho : o.op = .extract x i) (hx : opdC E nt x = some p) (e : p.f tm = .tup vs)
    (hv : ∀ k : AV → R, (dropA i vs fun l => avCons l fun v _ => k v) = k v) : Step E P nt o tm m v m :=
  pure_step fun ρ a w hG ht hr => by
    have h := (ht _ (by simp [ho, Op.operands]) _ hx)
    rw [e] at h
    obtain ⟨l, hl, hvl⟩ := vr_tup h
    obtain ⟨v', hi, hv'⟩ := at_drop hv hl
    refine ⟨v', ?_, hv'⟩
    simp [execOp, ho, hvl, Instr.extract, hi]
theorem step_fieldAddr {s : TypeId} {x : Operand} {f : Nat} {p : Opd} {fs : Array Field} {fd : Field} {n b i : Nat} (hE : EnvOK E P) (ho : o.op = .fieldAddr s x f) (hs : ty E s = some (.struct fs)) (hf : fs[f]? = some fd)
    (hx : opdC E nt x = some p) (hn : sz E fd.type = some n) (h0 : n ≠ 0) (e : p.f tm = .ptr b i) : Step E P nt o tm m (.ptr b (i + fd.offset)) m :=
  pure_step fun ρ a w hG ht hr => by
    have h := (ht _ (by simp [ho, Op.operands]) _ hx)
    rw [e] at h
    obtain ⟨l, hl, hv⟩ := vr_ptr h
    refine ⟨_, ?_, .ptr (o := i + fd.offset) hl⟩
    simp [execOp, ho, hv, Instr.fieldAt, run_und hE w hs, hf, Instr.sureAddr, fieldPlace, sz_ok hE w hn, h0, add_none, Nat.add_assoc]
end ops
end Go.Rx
