/-
  More operations: maps.
-/
import Derived.Test.YtopcdmlmokhjnaaGreatDoorRxOp5
set_option linter.unusedVariables false
set_option linter.unusedSimpArgs false
set_option linter.unusedSectionVars false
namespace Go.Rx

theorem run_getMap {P : Program} {w : World} {r : Nat} {es : Array MapEntry} {clock : Nat} (h : w.heap[r]? = some (.map es clock)) : (getObj r).run P w = .ok (.map es clock) w := by simp [getObj, Sem.run, h]
theorem run_setMap {P : Program} {w : World} {r : Nat} {es : Array MapEntry} {clock : Nat} {o : Obj} (h : w.heap[r]? = some (.map es clock)) : (setObj r o).run P w = .ok () (World.putObj w r o) := by simp [setObj, Sem.run, h, World.putObj]
noncomputable def pe (es : List (AV × AV)) : R := some (.mk .nl ⟨Tr.n .e (some (.map es)) .e, 0, 0⟩)
theorem pe_inj {a b : List (AV × AV)} (h : pe a = some (VM.mk .nl ⟨Tr.n .e (some (.map b)) .e, 0, 0⟩)) : a = b := by cases h; rfl
noncomputable def po (o : Option AV) : R := pv (orec .nl (fun a => .cons a .nl) o)
theorem po_inj {a b : Option AV} (h : po a = some (VM.mk (orec .nl (fun a => .cons a .nl) b) ⟨.e, 0, 0⟩)) : a = b := by
  cases a <;> cases b <;> cases h <;> rfl

section
variable {ρ : Ren}
theorem sameK_val {d : TypeDesc} (hd : keyKind d = true) {x y : AV} {vx vy : Value} {b : Bool} (h : sameK d x y pb = pb b) (vrx : VR ρ x vx) (vry : VR ρ y vy) : Instr.sameNow d vx vy = some b ∧ (b = true → Instr.sameBits 10000 vy vx = true) := by
  cases d with
  | int k =>
    obtain ⟨j, p, rfl, h1⟩ := avInt_some (show avInt x (fun j a => avInt y fun j' b => br (decide (j = j')) (pb (decide (a = b))) none) = some (VM.mk (.bool b) ⟨.e, 0, 0⟩) from h)
    obtain ⟨j', q, rfl, h2⟩ := avInt_some h1
    obtain ⟨hj, h3⟩ := br_none h2
    have := of_decide_eq_true hj
    have := pb_inj h3
    have := vr_int vrx; subst this
    have := vr_int vry; subst this
    subst j'
    subst b
    refine ⟨by simp [Instr.sameNow, BEq.beq], fun hb => ?_⟩
    have := of_decide_eq_true hb; subst this
    simp [Instr.sameBits]
  | string =>
    obtain ⟨p, rfl, h1⟩ := avStr_some (show avStr x (fun a => avStr y fun b => pb (beqBytes a b)) = some (VM.mk (.bool b) ⟨.e, 0, 0⟩) from h)
    obtain ⟨q, rfl, h2⟩ := avStr_some h1
    have := pb_inj h2; subst this
    have := vr_str vrx; subst this
    have := vr_str vry; subst this
    have e : ((ByteArray.mk ⟨p⟩) == (ByteArray.mk ⟨q⟩)) = (p == q) := by rw [beq_toListBytes, show (ByteArray.mk ⟨p⟩).toList = p from ByteArray.toList_mk p, show (ByteArray.mk ⟨q⟩).toList = q from ByteArray.toList_mk q]
    rw [beqBytes_eq]
    refine ⟨by simp [Instr.sameNow, e], fun hb => ?_⟩
    have : p = q := by simpa using hb
    subst this
    simp [Instr.sameBits, beq_toListBytes]
  | _ => cases hd
theorem findM_val {d : TypeDesc} (hd : keyKind d = true) {x : AV} {vx : Value} (vrx : VR ρ x vx) {es : List (AV × AV)} {ms : List MapEntry} (hm : MR ρ es ms) : ∀ {q : Option AV} (i : Nat), findM d x es po = po q →
    ∃ r, Instr.findNow d vx ms i = some r ∧ ((q = none ∧ r = none) ∨ ∃ a j v, q = some a ∧ r = some (j, v) ∧ VR ρ a v) := by
  induction hm with
  | nil => intro q i h; have := po_inj (show po none = _ from h); subst this; exact ⟨none, rfl, .inl ⟨rfl, rfl⟩⟩
  | @cons e es m ms hk hv _ ih =>
    intro q i h
    obtain ⟨b, hb, h1⟩ := yl_sameK d x e.1 _ _ (show (sameK d x e.1 fun b => br b (po (some e.2)) (findM d x es po)) = some (VM.mk (orec .nl (fun a => .cons a .nl) q) ⟨.e, 0, 0⟩) from h)
    have hs := (sameK_val hd (hb pb) vrx hk).1
    cases b with
    | true =>
      have := po_inj h1; subst this
      exact ⟨some (i, m.val), by simp [Instr.findNow, hs], .inr ⟨_, _, _, rfl, rfl, hv⟩⟩
    | false =>
      obtain ⟨r, hr, hor⟩ := ih (i + 1) h1
      exact ⟨r, by simp [Instr.findNow, hs, hr], hor⟩
theorem updM_val {d : TypeDesc} (hd : keyKind d = true) {x v : AV} {vx vv : Value} (vrx : VR ρ x vx) (vrv : VR ρ v vv) {es : List (AV × AV)} {ms : List MapEntry} (hm : MR ρ es ms) : ∀ {es' : List (AV × AV)} (i : Nat), updM d x v es pe = pe es' →
    ∃ r, Instr.findNow d vx ms i = some r ∧ ((r = none ∧ ∀ born, MR ρ es' (ms ++ [{ key := vx, val := vv, born }])) ∨
      ∃ j e y, r = some (i + j, y) ∧ ms[j]? = some e ∧ Instr.sameBits 10000 e.key vx = true ∧ MR ρ es' (ms.modify j fun e => { e with key := vx, val := vv })) := by
  induction hm with
  | nil => intro es' i h; have := pe_inj (show pe [(x, v)] = _ from h); subst this; exact ⟨none, rfl, .inl ⟨rfl, fun born => .cons vrx vrv .nil⟩⟩
  | @cons e es m ms hk hv hm ih =>
    intro es' i h
    obtain ⟨b, hb, h1⟩ := yl_sameK d x e.1 _ _ (show (sameK d x e.1 fun b => br b (pe ((x, v) :: es)) (updM d x v es fun r => pe (e :: r))) = some (VM.mk .nl ⟨Tr.n .e (some (.map es')) .e, 0, 0⟩) from h)
    obtain ⟨hs, hs2⟩ := sameK_val hd (hb pb) vrx hk
    cases b with
    | true =>
      have := pe_inj h1; subst this
      exact ⟨some (i, m.val), by simp [Instr.findNow, hs], .inr ⟨0, m, m.val, rfl, rfl, hs2 rfl, .cons vrx vrv hm⟩⟩
    | false =>
      obtain ⟨es1, h2, h3⟩ := yl_updM d x v es _ _ h1
      have := pe_inj h3; subst this
      obtain ⟨r, hr, hor⟩ := ih (i + 1) (h2 pe)
      refine ⟨r, by simp [Instr.findNow, hs, hr], ?_⟩
      rcases hor with ⟨rfl, hor⟩ | ⟨j, e', y, rfl, he', hsb, hor⟩
      · exact .inl ⟨rfl, fun born => .cons hk hv (hor born)⟩
      · exact .inr ⟨j + 1, e', y, by simp; omega, he', hsb, .cons hk hv hor⟩
end

section
variable {E : Env} {P : Program} {nt : Nat} {o : Oper} {tm : TM} {m : Mem} (hE : EnvOK E P)
include hE
theorem run_checkKey {kt : TypeId} {dk : TypeDesc} (hk : ty E kt = some dk) (hd : keyKind dk = true) (b : Bool) (v : Value) (w : World) : (Instr.checkKey b 10000 kt v).run P w = .ok () w := by
  show (Instr.checkKey b (9999 + 1) kt v).run P w = _
  rw [Instr.checkKey, Sem.run_bind, run_und hE w hk]
  cases dk with
  | int => rfl
  | string => rfl
  | _ => cases hd
theorem run_findKey {kt : TypeId} {dk : TypeDesc} (hk : ty E kt = some dk) {v : Value} {ms : List MapEntry} {r : Option (Nat × Value)} (h : Instr.findNow dk v ms 0 = some r) (w : World) : (Instr.findKey kt v ms).run P w = .ok r w := by
  simp only [Instr.findKey, Sem.run_bind, run_und hE w hk, Result.andThen_ok, h, Sem.run_pure]
noncomputable def lookV (ok : Bool) (z : AV) (q : Option AV) : AV := br ok (.tup (.cons (orec z (fun v => v) q) (.cons (.bool (orec false (fun _ => true) q)) .nl))) (orec z (fun v => v) q)
omit hE in
theorem lookV_val {ρ : Ren} {ok : Bool} {z : AV} {q : Option AV} {v : Value} {b : Bool} (hv : VR ρ (orec z (fun v => v) q) v) (hb : orec false (fun _ => true) q = b) : VR ρ (lookV ok z q) (if ok = true then .tuple #[v, .bool b] else v) := by
  subst hb
  cases ok with
  | true => exact .tup (.cons hv (.cons (.bool _) .nl))
  | false => exact hv
theorem step_lookup {t kt el : TypeId} {x y : Operand} {p q : Opd} {dk : TypeDesc} {z : AV} {ok : Bool} {r : Nat} {es : List (AV × AV)} {f : Option AV} (ho : o.op = .lookup t x y ok) (ht : ty E t = some (.map kt el)) (hk : ty E kt = some dk) (hd : keyKind dk = true)
    (hz : zr E el = some z) (hx : opdC E nt x = some p) (hy : opdC E nt y = some q) (e : p.f tm = .map r) (he : m.hp.get r = some (.map es)) (hf : ∀ k, findM dk (q.f tm) es k = k f) : Step E P nt o tm m (lookV ok z f) m :=
  pure_step fun ρ a w hG htm hr => by
    have hp := (htm _ (by simp [ho, Op.operands]) _ hx)
    have hq := (htm _ (by simp [ho, Op.operands]) _ hy)
    rw [e] at hp
    obtain ⟨l, hl, hpv⟩ := vr_map hp
    obtain ⟨⟨ms, clock, hobj, hm⟩, _⟩ := hr.blk _ _ _ he hl
    obtain ⟨g, hg, hor⟩ := findM_val hd hq hm 0 (hf po)
    obtain ⟨vz, hvz, hzz⟩ := zr_ok hE w hz ρ
    rcases hor with ⟨rfl, rfl⟩ | ⟨av, j, v, rfl, rfl, hv⟩
    · refine ⟨if ok = true then .tuple #[vz, .bool false] else vz, ?_, lookV_val hzz rfl⟩
      simp [execOp, ho, Instr.lookup, run_und hE w ht, hpv, run_getMap hobj, run_checkKey hE hk hd, run_findKey hE hk hg, hvz]
    · refine ⟨if ok = true then .tuple #[v, .bool true] else v, ?_, lookV_val hv rfl⟩
      simp [execOp, ho, Instr.lookup, run_und hE w ht, hpv, run_getMap hobj, run_checkKey hE hk hd, run_findKey hE hk hg]
theorem step_lookup_nil {t kt el : TypeId} {x y : Operand} {p q : Opd} {dk : TypeDesc} {z : AV} {ok : Bool} (ho : o.op = .lookup t x y ok) (ht : ty E t = some (.map kt el)) (hk : ty E kt = some dk) (hd : keyKind dk = true)
    (hz : zr E el = some z) (hx : opdC E nt x = some p) (e : p.f tm = .oth (.map none)) : Step E P nt o tm m (lookV ok z none) m :=
  pure_step fun ρ a w hG htm hr => by
    have hp := (htm _ (by simp [ho, Op.operands]) _ hx)
    rw [e] at hp
    obtain ⟨hpv, _⟩ := vr_oth hp
    obtain ⟨vz, hvz, hzz⟩ := zr_ok hE w hz ρ
    refine ⟨if ok = true then .tuple #[vz, .bool false] else vz, ?_, lookV_val hzz rfl⟩
    have hg : Instr.findNow dk (a.eval y) [] 0 = some none := rfl
    simp [execOp, ho, Instr.lookup, run_und hE w ht, hpv, run_checkKey hE hk hd, run_findKey hE hk hg, hvz]
theorem put_some {b : Nat} {x : Bk} {m' : Mem} (h : ∀ k, put m b x k = k m') : ∃ lo, m' = ⟨m.hp.set (some x) b, m.nx, lo⟩ := by
  obtain ⟨lo, h, _⟩ := setLo_some (show setLo m b (m.hp.set (some x) b) pm = some (VM.mk .nl m') from h pm)
  exact ⟨lo, (pm_inj h).symm⟩
theorem step_mapUpdate {t kt el : TypeId} {x y z : Operand} {p q s : Opd} {dk : TypeDesc} {r : Nat} {es es' : List (AV × AV)} {m' : Mem} (ho : o.op = .mapUpdate t x y z) (ht : ty E t = some (.map kt el)) (hk : ty E kt = some dk) (hd : keyKind dk = true)
    (hx : opdC E nt x = some p) (hy : opdC E nt y = some q) (hz : opdC E nt z = some s) (e : p.f tm = .map r) (he : m.hp.get r = some (.map es)) (hf : ∀ k, updM dk (q.f tm) (s.f tm) es k = k es') (hv : ∀ k, put m r (.map es') k = k m') : Step E P nt o tm m undefA m' := by
  intro ρ a w hG htm hr
  have hp := (htm _ (by simp [ho, Op.operands]) _ hx)
  have hq := (htm _ (by simp [ho, Op.operands]) _ hy)
  have hs := (htm _ (by simp [ho, Op.operands]) _ hz)
  rw [e] at hp
  obtain ⟨l, hl, hpv⟩ := vr_map hp
  obtain ⟨⟨ms, clock, hobj, hm⟩, hext⟩ := hr.blk _ _ _ he hl
  obtain ⟨g, hg, hor⟩ := updM_val hd hq hs hm 0 (hf pe)
  obtain ⟨lo, rfl⟩ := put_some hE hv
  rcases hor with ⟨rfl, hor⟩ | ⟨j, e', yy, rfl, he', hsb, hor⟩
  · let ob : Obj := .map (ms.push { key := a.eval y, val := a.eval z, born := clock }) (clock + 1)
    refine ⟨ρ, undef, World.putObj w l.b ob, .inr ⟨?_, rfl⟩, post_put hr he hl (by simp [World.putObj]) (fun j => putObj_get _ _ _ (lt_of_get hobj) _) ⟨⟨_, _, rfl, by simpa using hor clock⟩, hext⟩, .oth _ (by intro cs e; cases e)⟩
    simp [execOp, ho, Instr.mapUpdate, run_und hE w ht, hpv, run_getMap hobj, run_checkKey hE hk hd, run_findKey hE hk hg, run_setMap hobj, World.putObj, ob]
  · let ob : Obj := .map (ms.modify j fun e => { e with key := a.eval y, val := a.eval z }) clock
    refine ⟨ρ, undef, World.putObj w l.b ob, .inr ⟨?_, rfl⟩, post_put hr he hl (by simp [World.putObj]) (fun j => putObj_get _ _ _ (lt_of_get hobj) _) ⟨⟨_, _, rfl, by simpa using hor⟩, hext⟩, .oth _ (by intro cs e; cases e)⟩
    have he'' : ms[j]? = some e' := by simpa using he'
    have hst : (Instr.keyThatStays e'.key (a.eval y)).run P w = .ok (a.eval y) w := by simp [Instr.keyThatStays, hsb]
    simp [execOp, ho, Instr.mapUpdate, run_und hE w ht, hpv, run_getMap hobj, run_checkKey hE hk hd, run_findKey hE hk hg, he'', hst, run_setMap hobj, World.putObj, ob]
end
end Go.Rx
