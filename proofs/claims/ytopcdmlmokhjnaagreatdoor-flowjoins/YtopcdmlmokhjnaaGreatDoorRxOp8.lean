/-
  More operations: append and copy.
-/
import Derived.Test.YtopcdmlmokhjnaaGreatDoorRxOp7
set_option linter.unusedVariables false
set_option linter.unusedSimpArgs false
set_option linter.unusedSectionVars false
namespace Go.Rx

theorem growBy_le (need : Nat) : ∀ (k c : Nat), c ≤ 2 * need + 192 → Builtin.growBy need k c ≤ 2 * need + 192
  | 0, c, h => h
  | k + 1, c, h => by
    simp only [Builtin.growBy]
    split
    · exact h
    · exact growBy_le need k _ (by omega)
theorem nextcap_le {need old : Nat} (h : old < need) : Builtin.nextslicecap need old ≤ 2 * need + 192 := by
  unfold Builtin.nextslicecap
  split
  · omega
  · split
    · omega
    · exact growBy_le need 4 old (by omega)
theorem minN_eq (a b : Nat) : minN a b = min a b := by
  unfold minN
  rw [nble_dec]
  by_cases h : a ≤ b
  · rw [decide_eq_true h, Nat.min_eq_left h]; rfl
  · rw [decide_eq_false h, Nat.min_eq_right (by omega)]; rfl
theorem zeroCells_len (z : Array Value) (n : Nat) : (Builtin.zeroCells z n).size = n * z.size := by simp [Builtin.zeroCells]
section
variable {m : Mem} {ρ : Ren} {w : World} {P : Program}
theorem run_lenOf {x : AV} {vx : Value} {n : Nat} (h : lenOf x pn = pn n) (vr : VR ρ x vx) : (Builtin.lenOf vx).run P w = .ok n w := by
  rcases lenOf_val h vr with ⟨s, rfl, hs, _⟩ | ⟨a, c, rfl⟩
  · have : (ByteArray.mk ⟨s⟩).size = n := hs
    simp [Builtin.lenOf, this]
  · simp [Builtin.lenOf]
theorem elems_val {size n : Nat} {x xs : AV} {vx : Value} (h : elems m size n x pv = pv xs) (vr : VR ρ x vx) (hr : Rel ρ m w) :
    ∃ ys, LR ρ xs ys ∧ (∀ v ∈ ys, v.oneCell' = true) ∧ (∀ w', w'.heap = w.heap → (Builtin.firstCells size n vx).run P w' = .ok ⟨ys⟩ w') ∧ ((lenOf x pn = pn n) → ys.length = n * size) ∧
      (∀ b o l c, x = .slc b o l c → ∃ k, ρ b = some k ∧ ys.length = n * size ∧ ∀ j v, ys[j]? = some v → w.cell? ((Addr.mk k.b (k.o + o) none).add j) = some v) := by
  rcases avStrSlc_some (show avStrSlc x (fun s => br (Nat.beq size 1) (pv (bytesA (takeL n s))) none) (fun b o _ _ => br (Nat.beq (Nat.mul n size) 0) (pv .nl) (rd m b o (Nat.mul n size) pv)) (fun l _ => br (Nat.beq l 0) (pv .nl) none) = some (VM.mk xs ⟨.e, 0, 0⟩) from h) with ⟨s, rfl, h⟩ | ⟨b, o, l, c, rfl, h⟩ | ⟨l, c, rfl, h⟩
  · obtain ⟨h1, h⟩ := br_none h
    have := nbt h1; subst this
    have := pv_inj h; subst this
    have := vr_str vr; subst this
    rw [takeL_eq]
    refine ⟨(s.take n).map fun b => .int .u8 b.toNat, ?_, ?_, ?_, ?_, by intro b o l c e; cases e⟩
    · have hb : ∀ l : List UInt8, LR ρ (bytesA l) (l.map fun b => .int .u8 b.toNat) := by
        intro l
        induction l with
        | nil => exact .nl
        | cons b l ih => exact .cons (.int .u8 (.ofNat b.toNat)) ih
      exact hb _
    · intro v hv; simp only [List.mem_map] at hv; obtain ⟨b, _, rfl⟩ := hv; rfl
    · intro w' hw'
      have : (ByteArray.mk ⟨s⟩).extract 0 n = ByteArray.mk ⟨(s.drop 0).take (n - 0)⟩ := ByteArray.extract_mk s 0 n
      simp only [Builtin.firstCells, this]
      simp
    · intro hl
      have := pn_inj (show pn (lenL s) = some (VM.mk (.int .i64 (.ofNat n)) ⟨.e, 0, 0⟩) from hl)
      rw [lenL_eq] at this
      simp; omega
  · obtain ⟨k, c', hk, _, rfl⟩ := vr_slc vr
    rcases br_some h with ⟨h0, h⟩ | ⟨h0, h⟩
    · have h0 : n * size = 0 := nbt h0
      have := pv_inj h; subst this
      refine ⟨[], .nl, (by intro v hv; cases hv), ?_, fun _ => by simp [h0], ?_⟩
      · intro w' hw'; simp only [Builtin.firstCells, h0]; rfl
      · intro b o l c e; cases e; exact ⟨k, hk, by simp [h0], (by intro j v hj; cases hj)⟩
    · obtain ⟨cs, ys, hl, hn, hone, hc, h⟩ := rd_some hr hk h
      have := pv_inj h; subst this
      refine ⟨ys, hl, hone, ?_, fun _ => hn, ?_⟩
      · intro w' hw'
        simp only [Builtin.firstCells]
        have e : n * size = ys.length := hn.symm
        rw [e]
        exact run_loadCells_list w' _ ys fun j v hj => by
          have := hc j v hj
          unfold World.cell? at this ⊢
          rw [hw']; exact this
      · intro b o l c e; cases e; exact ⟨k, hk, hn, hc⟩
  · obtain ⟨rfl, _⟩ := vr_oth vr
    obtain ⟨h1, h⟩ := br_none h
    have := nbt h1; subst this
    have := pv_inj h; subst this
    refine ⟨[], .nl, (by intro v hv; cases hv), fun _ _ => rfl, ?_, by intro b o l c e; cases e⟩
    intro hl
    have := pn_inj (show pn 0 = some (VM.mk (.int .i64 (.ofNat n)) ⟨.e, 0, 0⟩) from hl)
    simp [← this]
end
section
variable {E : Env} {P : Program} {nt : Nat} {o : Oper} {tm : TM} {m : Mem} (hE : EnvOK E P)
include hE
/-- the model's append, where it finds no room -/
theorem run_append_new {ts : Array TypeId} {t0 t1 ty' el : TypeId} {d1 : TypeDesc} {s x : Value} {base : Option Addr} {sLen sCap n size bt : Nat} {z : AV} {ρ : Ren} {w : World} {olds news : List Value}
    (h0 : ts[0]? = some t0) (h1 : ts[1]? = some t1) (hd0 : ty E t0 = some (.slice el)) (hd1 : ty E t1 = some d1) (hni : notInt d1 = true) (hs : s = .slice base sLen sCap) (hn : sz E el = some size) (hz : zc E el = some z) (hlz : lenA z = size)
    (hbt : byt E el = some bt) (hb : bt ≤ 1000000) (hlen : ∀ w, (Builtin.lenOf x).run P w = .ok n w) (hneed : sCap < sLen + n) (hle : sLen + n ≤ 1000000)
    (hold : ∀ w', w'.heap = w.heap → (Builtin.firstCells size sLen s).run P w' = .ok ⟨olds⟩ w') (hnew : ∀ w', w'.heap = w.heap → (Builtin.firstCells size n x).run P w' = .ok ⟨news⟩ w') :
    ∃ (zv : Value) (c : Nat), sLen + n ≤ c ∧ zv.cells.size = size ∧ (Builtin.append_ ts ty' #[s, x]).run P w = .ok (.slice (some ⟨w.heap.size, 0, none⟩) (sLen + n) c)
      { w with heap := w.heap.push (.cells (⟨olds⟩ ++ ⟨news⟩ ++ Builtin.zeroCells zv.cells (c - (sLen + n))) el), drawn := w.drawn + 1 } := by
  subst hs
  obtain ⟨zv, hzv, hl, _⟩ := zc_ok hE w hz ρ
  have hzv' : ∀ w', (zeroValue el).run P w' = .ok zv w' := by
    intro w'
    obtain ⟨i, hi, h⟩ := orec_get (show orec none _ (E.types.get el) = some z from hz)
    obtain ⟨v, hv, h⟩ := orec_get h
    have a1 : ∀ w, (zeroValue el).run P w = .ok v w := fun w => by simp [zeroValue, typeInfo, hE.types el i hi, hv]
    have := hzv.symm.trans (a1 w)
    injection this with e
    rw [e]; exact a1 w'
  obtain ⟨i, hi, hib⟩ := byt_ok hE w hbt
  have hi' : ∀ w', (typeInfo el).run P w' = .ok i w' := by
    intro w'
    obtain ⟨i', hi2, _⟩ := byt_ok hE w' hbt
    have e : i' = i := by
      obtain ⟨j, hj, _⟩ := orec_get (show orec none (fun (i : TypeInfo) => some i.bytes) (E.types.get el) = some bt from hbt)
      have a1 : ∀ w, (typeInfo el).run P w = .ok j w := fun w => by simp [typeInfo, hE.types el j hj]
      have b1 := (a1 w).symm.trans hi
      have b2 := (a1 w').symm.trans hi2
      injection b1 with b1
      injection b2 with b2
      rw [← b1, ← b2]
    rw [← e]; exact hi2
  have hsz : zv.cells.size = size := by rw [← hlz, hl.length]; simp
  let c := (Question.appendCap (sLen + n) sCap el).cut (w.tape w.drawn (.appendCap (sLen + n) sCap el))
  refine ⟨zv, c, cut_cap hE w _ _ _, hsz, ?_⟩
  have hund : ∀ {t : TypeId} {d : TypeDesc} (h : ty E t = some d) (w : World), (underlying t).run P w = .ok d w := fun h w => run_und hE w h
  have hm : ((match d1 with | .int _ => true | _ => false) : Bool) = false := by cases d1 <;> first | rfl | cases hni
  have c1 : ¬ (sLen + n ≤ sCap) := by omega
  have c2 : ¬ ((((sLen + n : Nat) : Int) > IntKind.i64.max) ∧ i.bytes = 0) := by
    have : IntKind.i64.max = 9223372036854775807 := by decide
    rw [this]; intro h; omega
  have c3 : ¬ (Builtin.nextslicecap (sLen + n) sCap * i.bytes > 2 ^ 48) := by
    have a1 := nextcap_le hneed
    have a2 : Builtin.nextslicecap (sLen + n) sCap * i.bytes ≤ (2 * 1000000 + 192) * 1000000 := Nat.mul_le_mul (by omega) (by omega)
    omega
  let w1 : World := { w with drawn := w.drawn + 1 }
  have hold1 : (Builtin.firstCells size sLen (.slice base sLen sCap)).run P w1 = .ok ⟨olds⟩ w1 := hold w1 rfl
  have hnew1 : (Builtin.firstCells size n x).run P w1 = .ok ⟨news⟩ w1 := hnew w1 rfl
  have hch : (choose (.appendCap (sLen + n) sCap el)).run P w = .ok c w1 := by rw [run_choose]; simp [Question.forced, c, w1]
  have ha1 : (#[Value.slice base sLen sCap, x] : Array Value)[0]? = some (.slice base sLen sCap) := rfl
  have ha2 : (#[Value.slice base sLen sCap, x] : Array Value)[1]? = some x := rfl
  simp only [Builtin.append_, h0, h1, ha1, ha2, Sem.run_bind, hund hd0, hund hd1, Result.andThen_ok, sz_ok hE w hn, Sem.run_pure]
  cases d1 with
  | int k => cases hni
  | _ =>
    simp only [Bool.false_eq_true, if_false, hlen, Sem.run_bind, Result.andThen_ok, if_neg c1, hi', false_or, if_neg c2, if_neg c3, hch, run_askRoom, hold1, Bool.not_false, if_true, hnew1, hzv', newRow, run_newObj, Sem.run_pure]
    rfl
/-- the model's append, where there is room -/
theorem run_append_in {ts : Array TypeId} {t0 t1 ty' el : TypeId} {d1 : TypeDesc} {x : Value} {base : Option Addr} {sLen sCap n size : Nat} {w w' : World} {news : List Value}
    (h0 : ts[0]? = some t0) (h1 : ts[1]? = some t1) (hd0 : ty E t0 = some (.slice el)) (hd1 : ty E t1 = some d1) (hni : notInt d1 = true) (hn : sz E el = some size)
    (hlen : (Builtin.lenOf x).run P w = .ok n w) (hneed : sLen + n ≤ sCap) (hnew : (Builtin.firstCells size n x).run P w = .ok ⟨news⟩ w)
    (hst : match base with | some a => (storeCells (a.add (sLen * size)) news).run P w = .ok () w' | none => w' = w) :
    (Builtin.append_ ts ty' #[.slice base sLen sCap, x]).run P w = .ok (.slice base (sLen + n) sCap) w' := by
  have ha1 : (#[Value.slice base sLen sCap, x] : Array Value)[0]? = some (.slice base sLen sCap) := rfl
  have ha2 : (#[Value.slice base sLen sCap, x] : Array Value)[1]? = some x := rfl
  simp only [Builtin.append_, h0, h1, ha1, ha2, Sem.run_bind, run_und hE w hd0, run_und hE w hd1, Result.andThen_ok, sz_ok hE w hn, Sem.run_pure]
  cases base with
  | none =>
    have hst : w' = w := hst
    subst hst
    cases d1 with
    | int k => cases hni
    | _ => simp only [Bool.false_eq_true, if_false, hlen, Sem.run_bind, Result.andThen_ok, if_pos hneed, Bool.not_false, if_true, hnew, Sem.run_pure]
  | some a =>
    have hst : (storeCells (a.add (sLen * size)) news).run P w = .ok () w' := hst
    cases d1 with
    | int k => cases hni
    | _ => simp only [Bool.false_eq_true, if_false, hlen, Sem.run_bind, Result.andThen_ok, if_pos hneed, Bool.not_false, if_true, hnew, Sem.run_pure, hst]
omit hE in
theorem post_grow {ρ : Ren} {w : World} (hr : Rel ρ m w) {old xs : AV} {olds news rest : List Value} {el : TypeId} {size cap lo dr : Nat} (ho : LR ρ old olds) (hx : LR ρ xs news) (hoo : ∀ v ∈ olds, v.oneCell' = true) (hxo : ∀ v ∈ news, v.oneCell' = true)
    (hs : olds.length + news.length + rest.length = cap * size) :
    Post ρ m w (ρ.add m.nx ⟨w.heap.size, 0, some (size, cap * size)⟩) ⟨m.hp.set (some (.cells (appA old xs) (some size))) m.nx, Nat.succ m.nx, lo⟩ { w with heap := w.heap.push (.cells ⟨olds ++ news ++ rest⟩ el), drawn := dr } := by
  refine post_new hr (o := .cells ⟨olds ++ news ++ rest⟩ el) rfl ⟨⟨_, _, _, olds ++ news, rfl, ?_, (ho.append hx).mono (Ren.le_add hr.nx_none), ?_, ?_, ?_⟩, rfl⟩
  · intro i hi; simp
  · intro v hv; rcases List.mem_append.1 hv with hv | hv; exact hoo v hv; exact hxo v hv
  · intro i v hi
    obtain ⟨hlt, hi⟩ := List.getElem?_eq_some_iff.1 hi
    rw [Nat.zero_add, show ((⟨olds ++ news ++ rest⟩ : Array Value)[i]?) = (olds ++ news ++ rest)[i]? by simp, List.getElem?_append_left hlt, List.getElem?_eq_getElem hlt, hi]
  · intro es lim h
    injection h with h
    injection h with h1 h2
    subst h2
    simp only [List.size_toArray, List.length_append]
    omega
omit hE in
theorem grow_some {size need : Nat} {old xs v : AV} {m m' : Mem} (h : ∀ k : AV → Mem → R, grow m size old xs need k = k v m') : need ≤ 1000000 ∧ v = .slc m.nx 0 need need ∧ m' = ⟨m.hp.set (some (.cells (appA old xs) (some size))) m.nx, Nat.succ m.nx, m.lo⟩ := by
  obtain ⟨h1, h2⟩ := br_none (show br (Nat.ble need 1000000) (pvm (.slc m.nx 0 need need) ⟨m.hp.set (some (.cells (appA old xs) (some size))) m.nx, Nat.succ m.nx, m.lo⟩) none = some (VM.mk v m') from h pvm)
  obtain ⟨h3, h4⟩ := pvm_inj h2
  exact ⟨nble h1, h3.symm, h4.symm⟩
theorem step_append {c : Call} {x y : Operand} {p q : Opd} {t0 t1 el : TypeId} {d1 : TypeDesc} {size bt : Nat} {z v : AV} {m' : Mem} (ho : o.op = .call c) (hc : c.callee = .builtin .append) (ha : c.args.toList = [x, y]) (h0 : nthL c.argTypes.toList 0 = some t0) (h1 : nthL c.argTypes.toList 1 = some t1)
    (hd0 : ty E t0 = some (.slice el)) (hd1 : ty E t1 = some d1) (hni : notInt d1 = true) (hn : sz E el = some size) (hz : zc E el = some z) (hlz : lenA z = size) (hbt : byt E el = some bt) (hb : bt ≤ 1000000)
    (hx : opdC E nt x = some p) (hy : opdC E nt y = some q) (hv : ∀ k : AV → Mem → R, app m size (p.f tm) (q.f tm) k = k v m') : Step E P nt o tm m v m' := by
  intro ρ a w hG htm hr
  have hp := (htm _ (mem_call ho (by simp [ha])) _ hx)
  have hq := (htm _ (mem_call ho (by simp [ha])) _ hy)
  have hrun : ∀ {v : Value} {w' : World}, (Builtin.append_ c.argTypes o.type #[a.eval x, a.eval y]).run P w = .ok v w' → (execOp a.eval o).run P w = .ok (.value v) w' := fun h => builtin_run hE ho hc Builtin.append_ (fun _ _ _ _ => rfl) (by rw [args2 hE ha]; exact h)
  -- the length of what is added
  obtain ⟨n, hlen, h2⟩ := yl_lenOf (q.f tm) _ _ (show (lenOf (q.f tm) fun n => elems m size n (q.f tm) fun xs => avSlc (p.f tm) _ _) = some (VM.mk v m') from hv pvm)
  obtain ⟨xs, hxs, h3⟩ := yl_elems m size n (q.f tm) _ _ h2
  have e1 : ∀ k : AV → Mem → R, (avSlc (p.f tm)
      (fun b o len cap => br (Nat.ble (Nat.add len n) cap)
        (br (isNl xs) (k (.slc b o (Nat.add len n) cap) m) (wr m b (Nat.add o (Nat.mul len size)) xs fun m' => k (.slc b o (Nat.add len n) cap) m'))
        (elems m size len (p.f tm) fun old => capKnown m b (grow m size old xs (Nat.add len n) k) fun es => br (Nat.beq es size) (kill m b fun m' => grow m' size old xs (Nat.add len n) k) none))
      (fun len cap => br (Nat.beq len 0) (br (Nat.beq cap 0) (br (Nat.beq n 0) (k (.oth (.slice none 0 0)) m) (grow m size .nl xs n k)) none) none)) = k v m' := by
    intro k
    have e1 := hlen fun n => elems m size n (q.f tm) fun xs => avSlc (p.f tm)
      (fun b o len cap => br (Nat.ble (Nat.add len n) cap)
        (br (isNl xs) (k (.slc b o (Nat.add len n) cap) m) (wr m b (Nat.add o (Nat.mul len size)) xs fun m' => k (.slc b o (Nat.add len n) cap) m'))
        (elems m size len (p.f tm) fun old => capKnown m b (grow m size old xs (Nat.add len n) k) fun es => br (Nat.beq es size) (kill m b fun m' => grow m' size old xs (Nat.add len n) k) none))
      (fun len cap => br (Nat.beq len 0) (br (Nat.beq cap 0) (br (Nat.beq n 0) (k (.oth (.slice none 0 0)) m) (grow m size .nl xs n k)) none) none)
    rw [hxs] at e1
    exact e1.symm.trans (hv k)
  clear h2 h3
  obtain ⟨news, hnl, hno, hnf, hnlen, _⟩ := elems_val (P := P) (hxs pv) hq hr
  have hnlen := hnlen (hlen pn)
  have hle : ∀ w', (Builtin.lenOf (a.eval y)).run P w' = .ok n w' := fun w' => run_lenOf (hlen pn) hq
  have g0 := nthL_arr hE h0
  have g1 := nthL_arr hE h1
  -- the new block
  have grown : ∀ {base : Option Addr} {sLen sCap : Nat} {old : AV} {olds : List Value} {m1 : Mem} (hr1 : Rel ρ m1 w) (hs : a.eval x = .slice base sLen sCap) (hg : ∀ k : AV → Mem → R, grow m1 size old xs (sLen + n) k = k v m') (hlt : sCap < sLen + n)
      (hol : LR ρ old olds) (hoo : ∀ v ∈ olds, v.oneCell' = true) (hof : ∀ w', w'.heap = w.heap → (Builtin.firstCells size sLen (a.eval x)).run P w' = .ok ⟨olds⟩ w') (hoLen : olds.length = sLen * size),
      ∃ ρ' v' w', RunsTo (execOp a.eval o) P w v' w' ∧ Post ρ m1 w ρ' m' w' ∧ VR ρ' v v' := by
    intro base sLen sCap old olds m1 hr1 hs hg hlt hol hoo hof hoLen
    obtain ⟨h1m, rfl, rfl⟩ := grow_some hg
    obtain ⟨zv, cap, hcap, hzs, hap⟩ := run_append_new hE (ty' := o.type) (ρ := ρ) (w := w) g0 g1 hd0 hd1 hni hs hn hz hlz hbt hb hle hlt h1m hof hnf
    have hrest : olds.length + news.length + (Builtin.zeroCells zv.cells (cap - (sLen + n))).toList.length = cap * size := by
      rw [hoLen, hnlen, Array.length_toList, zeroCells_len, hzs, ← Nat.add_mul, ← Nat.add_mul]
      congr 1; omega
    have e : (⟨olds⟩ ++ ⟨news⟩ ++ Builtin.zeroCells zv.cells (cap - (sLen + n)) : Array Value) = ⟨olds ++ news ++ (Builtin.zeroCells zv.cells (cap - (sLen + n))).toList⟩ := by apply Array.ext'; simp
    rw [e] at hap
    refine ⟨_, _, _, .inl (hrun hap), post_grow hr1 hol hnl hoo hno hrest, VR.slc (o := 0) (cap := sLen + n) Ren.add_same ?_⟩
    show sLen + n ≤ cap ∧ (sLen + n < cap → 0 + 0 + cap * size ≤ cap * size)
    exact ⟨hcap, fun _ => by omega⟩
  rcases avSlc_some (show avSlc (p.f tm) _ _ = some (VM.mk v m') from e1 pvm) with ⟨b, o', len, cap, ep, h4⟩ | ⟨len, cap, ep, h4⟩
  · have hp' := hp
    rw [ep] at hp'
    obtain ⟨l, cap', hl, hcr, hpv⟩ := vr_slc hp'
    have hcc : cap ≤ cap' := by
      unfold CapR at hcr
      split at hcr
      · omega
      · exact hcr.1
    rw [ep] at e1
    have e2 : ∀ k : AV → Mem → R, br (Nat.ble (Nat.add len n) cap)
        (br (isNl xs) (k (.slc b o' (Nat.add len n) cap) m) (wr m b (Nat.add o' (Nat.mul len size)) xs fun m' => k (.slc b o' (Nat.add len n) cap) m'))
        (elems m size len (.slc b o' len cap) fun old => capKnown m b (grow m size old xs (Nat.add len n) k) fun es => br (Nat.beq es size) (kill m b fun m' => grow m' size old xs (Nat.add len n) k) none) = k v m' := e1
    cases hroom : Nat.ble (Nat.add len n) cap with
    | true =>
      rw [hroom] at e2
      have hroom : len + n ≤ cap := nble hroom
      have e2 : ∀ k : AV → Mem → R, br (isNl xs) (k (.slc b o' (Nat.add len n) cap) m) (wr m b (Nat.add o' (Nat.mul len size)) xs fun m' => k (.slc b o' (Nat.add len n) cap) m') = k v m' := e2
      cases hnlx : isNl xs with
      | true =>
        rw [hnlx] at e2
        obtain ⟨hv1, hm1⟩ := pvm_inj (show pvm (.slc b o' (Nat.add len n) cap) m = some (VM.mk v m') from e2 pvm)
        subst hv1 hm1
        have := isNl_eq.1 hnlx; subst this
        have hnews : news = [] := by cases hnl; rfl
        subst hnews
        refine ⟨ρ, _, w, .inl (hrun (v := .slice (some ⟨l.b, l.o + o', none⟩) (len + n) cap') ?_), Post.refl hr, .slc hl hcr⟩
        rw [hpv]
        exact run_append_in hE g0 g1 hd0 hd1 hni hn (hle w) (by omega) (hnf w rfl) (w' := w) rfl
      | false =>
        rw [hnlx] at e2
        obtain ⟨m1, w', h5, hpost, hst, _⟩ := wr_some hr hl hnl hno (show wr m b (Nat.add o' (Nat.mul len size)) xs (fun m' => pvm (.slc b o' (Nat.add len n) cap) m') = some (VM.mk v m') from e2 pvm)
        obtain ⟨hv1, hm1⟩ := pvm_inj h5
        subst hv1 hm1
        refine ⟨ρ, _, w', .inl (hrun (v := .slice (some ⟨l.b, l.o + o', none⟩) (len + n) cap') ?_), hpost, .slc hl hcr⟩
        rw [hpv]
        refine run_append_in hE g0 g1 hd0 hd1 hni hn (hle w) (by omega) (hnf w rfl) (w' := w') ?_
        show (storeCells ((Addr.mk l.b (l.o + o') none).add (len * size)) news).run P w = .ok () w'
        rw [add_none, Nat.add_assoc]
        exact hst P
    | false =>
      rw [hroom] at e2
      have hroom : cap < len + n := nbef hroom
      obtain ⟨old, holdk, h5⟩ := yl_elems m size len (.slc b o' len cap) _ _ (e2 pvm)
      obtain ⟨olds, hol, hoo, hof, hoLen, hoAt⟩ := elems_val (P := P) (holdk pv) hp' hr
      have hoLen := hoLen rfl
      have e3 : ∀ k : AV → Mem → R, capKnown m b (grow m size old xs (Nat.add len n) k) (fun es => br (Nat.beq es size) (kill m b fun m' => grow m' size old xs (Nat.add len n) k) none) = k v m' := by
        intro k
        have a1 := holdk fun old => capKnown m b (grow m size old xs (Nat.add len n) k) fun es => br (Nat.beq es size) (kill m b fun m' => grow m' size old xs (Nat.add len n) k) none
        exact a1.symm.trans (e2 k)
      obtain ⟨blk, hblk, h6⟩ := orec_get (show orec none _ (m.hp.get b) = some (VM.mk v m') from e3 pvm)
      cases blk with
      | cells vs ext =>
        obtain ⟨ca, el', fz, zs, k1, k2, k3, k4, k5, k6, k7⟩ := hr.cells hblk hl
        have e4 : ∀ k : AV → Mem → R, orec (grow m size old xs (Nat.add len n) k) (fun es => br (Nat.beq es size) (kill m b fun m' => grow m' size old xs (Nat.add len n) k) none) ext = k v m' := by
          intro k
          have := e3 k
          unfold capKnown at this
          rw [hblk] at this
          exact this
        cases hext : l.ext with
        | none =>
          rw [k7, hext] at e4
          have hcap' : cap' = cap := by simpa [CapR, hext] using hcr
          exact grown hr hpv e4 (by omega) hol hoo hof hoLen
        | some el2 =>
          obtain ⟨es, lim⟩ := el2
          rw [k7, hext] at e4
          have e4 : ∀ k : AV → Mem → R, br (Nat.beq es size) (kill m b fun m' => grow m' size old xs (Nat.add len n) k) none = k v m' := e4
          obtain ⟨hes, _⟩ := br_none (show br (Nat.beq es size) _ none = some (VM.mk v m') from e4 pvm)
          have hes := nbt hes
          subst hes
          rw [Nat.beq_refl] at e4
          obtain ⟨m1, hk1, _⟩ := yl_kill m b _ _ (show kill m b (fun m' => grow m' es old xs (Nat.add len n) pvm) = some (VM.mk v m') from e4 pvm)
          have e5 : ∀ k : AV → Mem → R, grow m1 es old xs (Nat.add len n) k = k v m' := fun k => (hk1 _).symm.trans (e4 k)
          obtain ⟨lo, hm1, _⟩ := setLo_some (show setLo m b (m.hp.set none b) pm = some (VM.mk .nl m1) from hk1 pm)
          have hm1 := pm_inj hm1
          subst hm1
          have hcr' : cap ≤ cap' ∧ (cap < cap' → l.o + o' + cap' * es ≤ lim) := by simpa [CapR, hext] using hcr
          by_cases hin : len + n ≤ cap'
          · -- in place
            obtain ⟨hne, hv1, hm'⟩ := grow_some e5
            have hlim := hcr'.2 (by omega)
            have hlimc := k6 es lim hext
            have hmul : (len + n) * es ≤ cap' * es := Nat.mul_le_mul_right _ hin
            rw [Nat.add_mul] at hmul
            have hst := run_storeCells_over P l.b (l.o + o' + len * es) el' fz news 0 ca w k1 k2 (.inr (by omega)) hno
            rw [Nat.add_zero] at hst
            have hsome : (news = [] ∨ l.o + o' + len * es + news.length ≤ ca.size) := .inr (by omega)
            obtain ⟨kk, hkk, _, hcell⟩ := hoAt b o' len cap rfl
            rw [hl] at hkk; cases hkk
            have hpost := post_reuse (lo := lo) (off := l.o + o') (ext := some (es, lim)) (x' := .cells (appA old xs) (some es)) (w' := World.putObj w l.b (.cells (over ca (l.o + o' + len * es) news) el' fz)) (o := .cells (over ca (l.o + o' + len * es) news) el' fz) hr hblk hl (by simp [World.putObj]) (fun j => putObj_get _ _ _ (lt_of_get k1) _) (by
              refine ⟨⟨_, _, _, olds ++ news, rfl, ?_, (hol.append hnl).mono (Ren.le_add hr.nx_none), ?_, ?_, ?_⟩, rfl⟩
              · intro i hi; rw [size_over] at hi; exact k2 i hi
              · intro v hv; rcases List.mem_append.1 hv with hv | hv; exact hoo v hv; exact hno v hv
              · intro i v hi
                show (over ca (l.o + o' + len * es) news)[l.o + o' + i]? = some v
                rw [get_over _ _ _ _ hsome]
                by_cases hi' : i < olds.length
                · rw [if_neg (by omega)]
                  rw [List.getElem?_append_left hi'] at hi
                  have := hcell i v hi
                  rw [add_none] at this
                  simpa [World.cell?, k1] using this
                · have hlt : i < olds.length + news.length := by
                    have := (List.getElem?_eq_some_iff.1 hi).1
                    simpa using this
                  rw [if_pos (by omega)]
                  rw [List.getElem?_append_right (by omega)] at hi
                  rw [← hi]; congr 1; omega
              · intro es' lim' h
                injection h with h
                injection h with h1 h2
                subst h2
                rw [size_over]; exact hlimc)
            subst hv1
            rw [hm']
            refine ⟨_, .slice (some ⟨l.b, l.o + o', none⟩) (len + n) cap', _, .inl (hrun ?_), hpost, VR.slc (o := 0) (cap := len + n) Ren.add_same ?_⟩
            · rw [hpv]
              refine run_append_in hE g0 g1 hd0 hd1 hni hn (hle w) hin (hnf w rfl) ?_
              show (storeCells ((Addr.mk l.b (l.o + o') none).add (len * es)) news).run P w = .ok () _
              rw [add_none]
              exact hst
            · show len + n ≤ cap' ∧ (len + n < cap' → l.o + o' + 0 + cap' * es ≤ lim)
              exact ⟨hin, fun _ => by omega⟩
          · have hk := post_kill (lo := lo) hr hblk hl
            obtain ⟨ρ', v', w', r1, r2, r3⟩ := grown hk.rel hpv e5 (by omega) hol hoo hof hoLen
            exact ⟨ρ', v', w', r1, Post.trans hr hk r2, r3⟩
      | _ => exact nomatch (show (none : R) = some (VM.mk v m') from h6)
  · have hp' := hp
    rw [ep] at hp'
    obtain ⟨hpv, _⟩ := vr_oth hp'
    rw [ep] at e1
    have e2 : ∀ k : AV → Mem → R, br (Nat.beq len 0) (br (Nat.beq cap 0) (br (Nat.beq n 0) (k (.oth (.slice none 0 0)) m) (grow m size .nl xs n k)) none) none = k v m' := e1
    obtain ⟨z0, h5⟩ := br_none (show br (Nat.beq len 0) _ none = some (VM.mk v m') from e2 pvm)
    obtain ⟨z1, _⟩ := br_none h5
    have z0 := nbt z0
    have z1 := nbt z1
    subst z0 z1
    have e3 : ∀ k : AV → Mem → R, br (Nat.beq n 0) (k (.oth (.slice none 0 0)) m) (grow m size .nl xs n k) = k v m' := e2
    cases hn0 : Nat.beq n 0 with
    | true =>
      rw [hn0] at e3
      have hn0 := nbt hn0
      subst hn0
      obtain ⟨hv1, hm1⟩ := pvm_inj (show pvm (.oth (.slice none 0 0)) m = some (VM.mk v m') from e3 pvm)
      subst hv1 hm1
      refine ⟨ρ, .slice none 0 0, w, .inl (hrun ?_), Post.refl hr, .oth _ (by intro cs e; cases e)⟩
      rw [hpv]
      exact run_append_in hE g0 g1 hd0 hd1 hni hn (hle w) (Nat.le_refl 0) (hnf w rfl) (w' := w) rfl
    | false =>
      rw [hn0] at e3
      have hpos : 0 < n := by rcases Nat.eq_zero_or_pos n with h | h; (subst h; cases hn0); exact h
      have e4 : ∀ k : AV → Mem → R, grow m size .nl xs (0 + n) k = k v m' := by rw [Nat.zero_add]; exact e3
      exact grown hr hpv e4 (by omega) .nl (by intro v hv; cases hv) (by rw [hpv]; intro w' _; rfl) (by simp)
theorem step_copy {c : Call} {x y : Operand} {p q : Opd} {t0 el : TypeId} {size : Nat} {v : AV} {m' : Mem} (ho : o.op = .call c) (hc : c.callee = .builtin .copy) (ha : c.args.toList = [x, y]) (h0 : nthL c.argTypes.toList 0 = some t0)
    (hd0 : ty E t0 = some (.slice el)) (hn : sz E el = some size) (hx : opdC E nt x = some p) (hy : opdC E nt y = some q) (hv : ∀ k : AV → Mem → R, copyC m size (p.f tm) (q.f tm) k = k v m') : Step E P nt o tm m v m' := by
  intro ρ a w hG htm hr
  have hp := (htm _ (mem_call ho (by simp [ha])) _ hx)
  have hq := (htm _ (mem_call ho (by simp [ha])) _ hy)
  have hrun : ∀ {v : Value} {w' : World}, (Builtin.copy_ c.argTypes o.type #[a.eval x, a.eval y]).run P w = .ok v w' → (execOp a.eval o).run P w = .ok (.value v) w' := fun h => builtin_run hE ho hc Builtin.copy_ (fun _ _ _ _ => rfl) (by rw [args2 hE ha]; exact h)
  have g0 := nthL_arr hE h0
  obtain ⟨sl, hlen, h2⟩ := yl_lenOf (q.f tm) _ _ (show (lenOf (q.f tm) fun sl => avSlc (p.f tm) _ _) = some (VM.mk v m') from hv pvm)
  have e1 : ∀ k : AV → Mem → R, (avSlc (p.f tm)
      (fun b o dl _ => elems m size (minN sl dl) (q.f tm) fun xs => br (isNl xs) (k (.int .i64 (.ofNat (minN sl dl))) m) (wr m b o xs fun m' => k (.int .i64 (.ofNat (minN sl dl))) m'))
      (fun dl _ => br (Nat.beq dl 0) (k (.int .i64 0) m) none)) = k v m' := fun k => (hlen fun sl => avSlc (p.f tm)
      (fun b o dl _ => elems m size (minN sl dl) (q.f tm) fun xs => br (isNl xs) (k (.int .i64 (.ofNat (minN sl dl))) m) (wr m b o xs fun m' => k (.int .i64 (.ofNat (minN sl dl))) m'))
      (fun dl _ => br (Nat.beq dl 0) (k (.int .i64 0) m) none)).symm.trans (hv k)
  have hle : (Builtin.lenOf (a.eval y)).run P w = .ok sl w := run_lenOf (hlen pn) hq
  have ha2 : ∀ s : Value, (#[s, a.eval y] : Array Value)[1]? = some (a.eval y) := fun _ => rfl
  rcases avSlc_some (show avSlc (p.f tm) _ _ = some (VM.mk v m') from e1 pvm) with ⟨b, o', dl, cap, ep, h4⟩ | ⟨dl, cap, ep, h4⟩
  · rw [ep] at hp
    obtain ⟨l, cap', hl, hcr, hpv⟩ := vr_slc hp
    rw [ep] at e1
    have e2 : ∀ k : AV → Mem → R, (elems m size (minN sl dl) (q.f tm) fun xs => br (isNl xs) (k (.int .i64 (.ofNat (minN sl dl))) m) (wr m b o' xs fun m' => k (.int .i64 (.ofNat (minN sl dl))) m')) = k v m' := e1
    obtain ⟨xs, hxs, _⟩ := yl_elems m size (minN sl dl) (q.f tm) _ _ (e2 pvm)
    have e3 : ∀ k : AV → Mem → R, br (isNl xs) (k (.int .i64 (.ofNat (minN sl dl))) m) (wr m b o' xs fun m' => k (.int .i64 (.ofNat (minN sl dl))) m') = k v m' := fun k => (hxs _).symm.trans (e2 k)
    obtain ⟨news, hnl, hno, hnf, _, _⟩ := elems_val (P := P) (hxs pv) hq hr
    have hnf := hnf w rfl
    rw [minN_eq] at hnf e3
    have hcopy : ∀ {w' : World}, (storeCells ⟨l.b, l.o + o', none⟩ news).run P w = .ok () w' → (Builtin.copy_ c.argTypes o.type #[a.eval x, a.eval y]).run P w = .ok (.int .i64 (min sl dl : Nat)) w' := by
      intro w' hst
      have e0 : (#[a.eval x, a.eval y] : Array Value)[0]? = some (.slice (some ⟨l.b, l.o + o', none⟩) dl cap') := by rw [hpv]; rfl
      have hmn : Nat.min sl dl = min sl dl := rfl
      simp only [Builtin.copy_, g0, e0, ha2, Sem.run_bind, run_und hE w hd0, Result.andThen_ok, hle, sz_ok hE w hn, hmn, hnf, hst, Sem.run_pure, goInt]
    cases hnlx : isNl xs with
    | true =>
      rw [hnlx] at e3
      obtain ⟨hv1, hm1⟩ := pvm_inj (show pvm (.int .i64 (.ofNat (min sl dl))) m = some (VM.mk v m') from e3 pvm)
      subst hv1 hm1
      have := isNl_eq.1 hnlx; subst this
      have hnews : news = [] := by cases hnl; rfl
      subst hnews
      exact ⟨ρ, _, w, .inl (hrun (hcopy rfl)), Post.refl hr, .int _ _⟩
    | false =>
      rw [hnlx] at e3
      obtain ⟨m1, w', h5, hpost, hst, _⟩ := wr_some hr hl hnl hno (show wr m b o' xs (fun m' => pvm (.int .i64 (.ofNat (min sl dl))) m') = some (VM.mk v m') from e3 pvm)
      obtain ⟨hv1, hm1⟩ := pvm_inj h5
      subst hv1 hm1
      exact ⟨ρ, _, w', .inl (hrun (hcopy (hst P))), hpost, .int _ _⟩
  · rw [ep] at hp
    obtain ⟨hpv, _⟩ := vr_oth hp
    rw [ep] at e1
    have e2 : ∀ k : AV → Mem → R, br (Nat.beq dl 0) (k (.int .i64 0) m) none = k v m' := e1
    obtain ⟨z0, h5⟩ := br_none (show br (Nat.beq dl 0) (pvm (.int .i64 0) m) none = some (VM.mk v m') from e2 pvm)
    have z0 := nbt z0
    subst z0
    obtain ⟨hv1, hm1⟩ := pvm_inj h5
    subst hv1 hm1
    have hf : ∃ r, (Builtin.firstCells size 0 (a.eval y)).run P w = .ok r w := by
      rcases lenOf_val (hlen pn) hq with ⟨s, e, _, _⟩ | ⟨ad, cc, e⟩
      · rw [e]; exact ⟨_, rfl⟩
      · rw [e]
        cases ad with
        | none => exact ⟨_, rfl⟩
        | some ad => refine ⟨#[], ?_⟩; simp only [Builtin.firstCells, Nat.zero_mul]; rfl
    obtain ⟨r, hf⟩ := hf
    refine ⟨ρ, .int .i64 0, w, .inl (hrun ?_), Post.refl hr, .int _ _⟩
    have e0 : (#[a.eval x, a.eval y] : Array Value)[0]? = some (.slice none 0 cap) := by rw [hpv]; rfl
    have hmn : Nat.min sl 0 = 0 := Nat.min_zero sl
    simp only [Builtin.copy_, g0, e0, ha2, Sem.run_bind, run_und hE w hd0, Result.andThen_ok, hle, sz_ok hE w hn, hmn, hf, Sem.run_pure, goInt]
    rfl
end
end Go.Rx
