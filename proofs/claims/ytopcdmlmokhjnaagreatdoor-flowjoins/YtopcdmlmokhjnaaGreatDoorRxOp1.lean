/-
  More operations: memory, and parts of values.
-/
import Derived.Test.YtopcdmlmokhjnaaGreatDoorRxOps
set_option linter.unusedVariables false
set_option linter.unusedSimpArgs false
set_option linter.unusedSectionVars false
namespace Go.Rx

/-- what a probe comes to -/
noncomputable def pv (v : AV) : R := some (.mk v ⟨.e, 0, 0⟩)
theorem pv_inj {a b : AV} (h : pv a = some (VM.mk b ⟨.e, 0, 0⟩)) : a = b := by cases h; rfl
noncomputable def pm (m : Mem) : R := some (.mk .nl m)
theorem pm_inj {a b : Mem} (h : pm a = some (VM.mk .nl b)) : a = b := by cases h; rfl
noncomputable def pvm (v : AV) (m : Mem) : R := some (.mk v m)
theorem pvm_inj {a b : AV} {m n : Mem} (h : pvm a m = some (VM.mk b n)) : a = b ∧ m = n := by cases h; exact ⟨rfl, rfl⟩

section run
variable {P : Program} {w : World} {t : TypeId}
theorem run_loadVar_one {a : Addr} {v : Value} (h : (isAgg t).run P w = .ok false w) (hc : w.cell? a = some v) : (loadVar t a).run P w = .ok v w := by
  simp only [loadVar, Sem.run_bind, h, Result.andThen_ok, Bool.false_eq_true, if_false, run_load, hc]
theorem run_loadVar_many {a : Addr} {n : Nat} {xs : List Value} (h : (isAgg t).run P w = .ok true w) (hs : (sizeOf t).run P w = .ok n w) (hn : xs.length = n)
    (hc : ∀ j v, xs[j]? = some v → w.cell? (a.add j) = some v) : (loadVar t a).run P w = .ok (.agg ⟨xs⟩) w := by
  subst hn
  simp only [loadVar, Sem.run_bind, h, Result.andThen_ok, if_true, hs, run_loadCells_list w a xs hc, Sem.run_pure]
theorem run_storeVar {a : Addr} {n : Nat} {v : Value} {w' : World} (hs : (sizeOf t).run P w = .ok n w) (hn : v.cells.toList.length = n) (hc : (storeCells a v.cells.toList).run P w = .ok () w') : (storeVar t a v).run P w = .ok () w' := by
  have hn : v.cells.size = n := by simpa using hn
  simp only [storeVar, Sem.run_bind, hs, Result.andThen_ok, hn, ne_eq, not_true_eq_false, if_false, hc]
theorem run_part_one {cs : Array Value} {off : Nat} {v : Value} (h : (isAgg t).run P w = .ok false w) (hc : cs[off]? = some v) : (part t cs off).run P w = .ok v w := by
  simp only [part, Sem.run_bind, h, Result.andThen_ok, Bool.false_eq_true, if_false, hc, Sem.run_pure]
theorem run_part_many {cs : Array Value} {off n : Nat} (h : (isAgg t).run P w = .ok true w) (hs : (sizeOf t).run P w = .ok n w) : (part t cs off).run P w = .ok (.agg (cs.extract off (off + n))) w := by
  simp only [part, Sem.run_bind, h, Result.andThen_ok, if_true, hs, Sem.run_pure]
end run

theorem partC_val {E : Env} {P : Program} (hE : EnvOK E P) {t : TypeId} {s : Shape} (hs : shape E t = some s) (w : World) {ρ : Ren} {cs v : AV} {off : Nat} {l : List Value} (hv : ∀ k, partC s cs off k = k v) (hl : LR ρ cs l)
    (hc : ∀ x ∈ l, x.oneCell' = true) : ∃ v', (part t ⟨l⟩ off).run P w = .ok v' w ∧ VR ρ v v' := by
  cases s with
  | one =>
    obtain ⟨v', hi, hv'⟩ := at_drop (i := off) (vs := cs) (v := v) hv hl
    exact ⟨v', run_part_one (shape_one hE w hs) (by simpa using hi), hv'⟩
  | many n =>
    obtain ⟨h1, h2⟩ := shape_many hE w hs
    have hv1 : dropA off cs (fun l => takeA n l fun r => pv (.agg r)) = pv v := hv pv
    obtain ⟨b, hb, hn, hr⟩ := dropA_some hv1 hl
    obtain ⟨b2, hb2, hn2, hr⟩ := takeA_some hr hb
    have := pv_inj hr
    subst this
    refine ⟨_, run_part_many h1 h2, ?_⟩
    have e : (Array.mk l).extract off (off + n) = ⟨(l.drop off).take n⟩ := by
      apply Array.ext'
      simp [List.extract_eq_take_drop]
    rw [e]
    exact .agg hb2 fun x hx => hc x (List.mem_of_mem_drop (List.mem_of_mem_take hx))

section ops
variable {E : Env} {P : Program} {nt : Nat} {o : Oper} {tm : TM} {m : Mem} (hE : EnvOK E P)
include hE
theorem step_load {t : TypeId} {x : Operand} {p : Opd} {s : Shape} {v : AV} (ho : o.op = .load t x) (hs : shape E t = some s) (hx : opdC E nt x = some p)
    (hv : ∀ k, loadC s m (p.f tm) k = k v) : Step E P nt o tm m v m :=
  pure_step fun ρ a w hG ht hr => by
    have hp := (ht _ (by simp [ho, Op.operands]) _ hx)
    obtain ⟨b, i, e, h⟩ := avPtr_some (show avPtr (p.f tm) _ = some (VM.mk v ⟨.e, 0, 0⟩) from hv pv)
    rw [e] at hp
    obtain ⟨l, hl, hpv⟩ := vr_ptr hp
    have hrun : (execOp a.eval o).run P w = ((loadVar t ⟨l.b, l.o + i, none⟩).run P w).andThen fun v w' => .ok (.value v) w' := by
      simp [execOp, ho, Instr.loadAt, hpv, Instr.sureAddr]
    cases s with
    | one =>
      obtain ⟨av, v', hv', _, hc, hk⟩ := rd1_some hr hl h
      have := pv_inj hk; subst this
      refine ⟨v', ?_, hv'⟩
      rw [hrun, run_loadVar_one (shape_one hE w hs) hc]; rfl
    | many n =>
      obtain ⟨h1, h2⟩ := shape_many hE w hs
      obtain ⟨cs, xs, hcs, hlen, hone, hc, hk⟩ := rd_some hr hl h
      have := pv_inj hk; subst this
      refine ⟨.agg ⟨xs⟩, ?_, .agg hcs hone⟩
      rw [hrun, run_loadVar_many h1 h2 hlen hc]; rfl
theorem step_store {t : TypeId} {x y : Operand} {p q : Opd} {n : Nat} {m' : Mem} (ho : o.op = .store t x y) (hs : sz E t = some n) (hx : opdC E nt x = some p) (hy : opdC E nt y = some q)
    (hv : ∀ k, storeC n m (p.f tm) (q.f tm) k = k m') : Step E P nt o tm m undefA m' := by
  intro ρ a w hG ht hr
  have hp := (ht _ (by simp [ho, Op.operands]) _ hx)
  have hq := (ht _ (by simp [ho, Op.operands]) _ hy)
  obtain ⟨b, i, e, h⟩ := avPtr_some (show avPtr (p.f tm) _ = some (VM.mk .nl m') from hv pm)
  rw [e] at hp
  obtain ⟨l, hl, hpv⟩ := vr_ptr hp
  obtain ⟨cs, hcs, hone, h⟩ := cellsK_some h hq
  obtain ⟨hn, h⟩ := br_none h
  obtain ⟨m1, w', hk, hpost, hrun, _, _⟩ := wr_some hr hl hcs hone h
  have := pm_inj hk; subst this
  refine ⟨ρ, undef, w', .inr ⟨?_, rfl⟩, hpost, .oth _ (by intro cs e; cases e)⟩
  have hn' : (a.eval y).cells.toList.length = n := by rw [← hcs.length]; exact nbt hn
  simp only [execOp, ho, Instr.storeAt, hpv, Instr.sureAddr, Sem.run_bind, Sem.run_pure, Result.andThen_ok]
  rw [run_storeVar (sz_ok hE w hs) hn' (hrun P)]; rfl
/-- a block of a new variable's or row's cells -/
theorem new_cells {ρ : Ren} {w : World} {cs : AV} {l : List Value} {el : TypeId} {lo : Nat} (hr : Rel ρ m w) (hl : LR ρ cs l) (hc : ∀ x ∈ l, x.oneCell' = true) :
    Post ρ m w (ρ.add m.nx ⟨w.heap.size, 0, none⟩) ⟨m.hp.set (some (.cells cs none)) m.nx, Nat.succ m.nx, lo⟩ { w with heap := w.heap.push (.cells ⟨l⟩ el) } := by
  refine post_new hr rfl ⟨⟨_, _, _, l, rfl, ?_, hl.mono (Ren.le_add hr.nx_none), hc, ?_, ?_⟩, rfl⟩
  · intro i hi; simp
  · intro i v hi; simpa using hi
  · intro es lim h; cases h
theorem step_alloc {el : TypeId} {z : AV} {m' : Mem} (ho : o.op = .alloc el) (hz : zc E el = some z) (hv : ∀ k, new m (.cells z none) k = k m') : Step E P nt o tm m (.ptr m.nx 0) m' := by
  intro ρ a w hG ht hr
  obtain ⟨v, hrun, hl, hone⟩ := zc_ok hE w hz ρ
  have := pm_inj (show pm _ = some (VM.mk .nl m') from hv pm)
  subst this
  refine ⟨_, _, _, .inl ?_, new_cells hE (el := el) hr hl hone, .ptr (o := 0) Ren.add_same⟩
  simp [execOp, ho, Instr.alloc, hrun, newVar, newRow]
theorem step_box {el : TypeId} {x : Operand} {p : Opd} {cs : AV} {m' : Mem} (ho : o.op = .box el x) (hx : opdC E nt x = some p) (hcs : ∀ k, cellsK (p.f tm) k = k cs) (hv : ∀ k, new m (.cells cs none) k = k m') : Step E P nt o tm m (.ptr m.nx 0) m' := by
  intro ρ a w hG ht hr
  have hp := (ht _ (by simp [ho, Op.operands]) _ hx)
  obtain ⟨cs', hl, hone, hk⟩ := cellsK_some (hcs pv) hp
  have := pv_inj hk; subst this
  have := pm_inj (show pm _ = some (VM.mk .nl m') from hv pm)
  subst this
  refine ⟨_, _, _, .inl ?_, new_cells hE (el := el) hr hl hone, .ptr (o := 0) Ren.add_same⟩
  simp [execOp, ho, Instr.box, newVar, newRow]
theorem step_makeMap {t : TypeId} {m' : Mem} (ho : o.op = .makeMap t none) (hv : ∀ k, new m (.map []) k = k m') : Step E P nt o tm m (.map m.nx) m' := by
  intro ρ a w hG ht hr
  have := pm_inj (show pm _ = some (VM.mk .nl m') from hv pm)
  subst this
  refine ⟨_, .map (some w.heap.size), { w with heap := w.heap.push (.map #[] 0) }, .inl ?_, post_new (ext := none) hr rfl ⟨⟨#[], 0, rfl, .nil⟩, rfl⟩, .map Ren.add_same⟩
  simp [execOp, ho, Instr.makeMap]
theorem step_field {t : TypeId} {x : Operand} {f : Nat} {p : Opd} {fs : Array Field} {fd : Field} {s : Shape} {cs v : AV} (ho : o.op = .field t x f) (ht : ty E t = some (.struct fs)) (hf : fs[f]? = some fd)
    (hx : opdC E nt x = some p) (hs : shape E fd.type = some s) (e : p.f tm = .agg cs) (hv : ∀ k, partC s cs fd.offset k = k v) : Step E P nt o tm m v m :=
  pure_step fun ρ a w hG htm hr => by
    have hp := (htm _ (by simp [ho, Op.operands]) _ hx)
    rw [e] at hp
    obtain ⟨l, hl, hone, hpv⟩ := vr_agg hp
    obtain ⟨v', hrun, hv'⟩ := partC_val hE hs w hv hl hone
    refine ⟨v', ?_, hv'⟩
    simp [execOp, ho, Instr.field, run_und hE w ht, hf, hpv, asAgg, hrun]
theorem step_indexAddr_slice {t el : TypeId} {x i : Operand} {p q : Opd} {n b o' len cap j : Nat} {jk : IntKind} (ho : o.op = .indexAddr t x i) (ht : ty E t = some (.slice el)) (hx : opdC E nt x = some p) (hi : opdC E nt i = some q)
    (hn : sz E el = some n) (e : p.f tm = .slc b o' len cap) (ei : q.f tm = .int jk (.ofNat j)) (hj : j < len) : Step E P nt o tm m (.ptr b (Nat.add o' (Nat.mul j n))) m :=
  pure_step fun ρ a w hG htm hr => by
    have hp := (htm _ (by simp [ho, Op.operands]) _ hx)
    have hq := (htm _ (by simp [ho, Op.operands]) _ hi)
    rw [e] at hp
    rw [ei] at hq
    obtain ⟨l, cap', hl, hc, hpv⟩ := vr_slc hp
    have hqv := vr_int hq
    refine ⟨_, ?_, .ptr (o := Nat.add o' (Nat.mul j n)) hl⟩
    simp [execOp, ho, Instr.indexAt, run_und hE w ht, hpv, hqv, asIntOf, hj, sz_ok hE w hn, add_none, Nat.add_assoc]
theorem step_indexAddr_array {t el : TypeId} {x i : Operand} {p q : Opd} {n b o' len j : Nat} {jk : IntKind} (ho : o.op = .indexAddr t x i) (ht : ty E t = some (.array len el)) (hx : opdC E nt x = some p) (hi : opdC E nt i = some q)
    (hn : sz E el = some n) (e : p.f tm = .ptr b o') (ei : q.f tm = .int jk (.ofNat j)) (hj : j < len) : Step E P nt o tm m (.ptr b (Nat.add o' (Nat.mul j n))) m :=
  pure_step fun ρ a w hG htm hr => by
    have hp := (htm _ (by simp [ho, Op.operands]) _ hx)
    have hq := (htm _ (by simp [ho, Op.operands]) _ hi)
    rw [e] at hp
    rw [ei] at hq
    obtain ⟨l, hl, hpv⟩ := vr_ptr hp
    have hqv := vr_int hq
    refine ⟨_, ?_, .ptr (o := Nat.add o' (Nat.mul j n)) hl⟩
    simp [execOp, ho, Instr.indexAt, run_und hE w ht, hpv, hqv, asIntOf, hj, sz_ok hE w hn, add_none, Nat.add_assoc, Instr.sureAddr]
theorem step_index_array {t el : TypeId} {x i : Operand} {p q : Opd} {n len j : Nat} {jk : IntKind} {s : Shape} {cs v : AV} (ho : o.op = .index t x i) (ht : ty E t = some (.array len el)) (hx : opdC E nt x = some p) (hi : opdC E nt i = some q)
    (hn : sz E el = some n) (hs : shape E el = some s) (e : p.f tm = .agg cs) (ei : q.f tm = .int jk (.ofNat j)) (hj : j < len) (hv : ∀ k, partC s cs (Nat.mul j n) k = k v) : Step E P nt o tm m v m :=
  pure_step fun ρ a w hG htm hr => by
    have hp := (htm _ (by simp [ho, Op.operands]) _ hx)
    have hq := (htm _ (by simp [ho, Op.operands]) _ hi)
    rw [e] at hp
    rw [ei] at hq
    obtain ⟨l, hl, hone, hpv⟩ := vr_agg hp
    have hqv := vr_int hq
    obtain ⟨v', hrun, hv'⟩ := partC_val hE hs w hv hl hone
    refine ⟨v', ?_, hv'⟩
    have hrun' : (part el ⟨l⟩ (j * n)).run P w = .ok v' w := hrun
    simp [execOp, ho, Instr.index, run_und hE w ht, hpv, hqv, asIntOf, hj, sz_ok hE w hn, hrun']
theorem step_index_string {t : TypeId} {x i : Operand} {p q : Opd} {j : Nat} {jk : IntKind} {s : List UInt8} {b : UInt8} (ho : o.op = .index t x i) (ht : ty E t = some .string) (hx : opdC E nt x = some p) (hi : opdC E nt i = some q)
    (e : p.f tm = .str s) (ei : q.f tm = .int jk (.ofNat j)) (hj : (s : List UInt8)[(j : Nat)]? = some b) : Step E P nt o tm m (.int .u8 (.ofNat b.toNat)) m :=
  pure_step fun ρ a w hG htm hr => by
    have hp := (htm _ (by simp [ho, Op.operands]) _ hx)
    have hq := (htm _ (by simp [ho, Op.operands]) _ hi)
    rw [e] at hp
    rw [ei] at hq
    have hpv := vr_str hp
    have hqv := vr_int hq
    refine ⟨_, ?_, .int _ _⟩
    have hb : (ByteArray.mk ⟨s⟩)[(j : Nat)]? = some b := by
      obtain ⟨hlt, hj'⟩ := List.getElem?_eq_some_iff.1 hj
      have : j < (ByteArray.mk ⟨s⟩).size := hlt
      rw [getElem?_pos (ByteArray.mk ⟨s⟩) j this]
      exact congrArg some hj'
    simp [execOp, ho, Instr.index, run_und hE w ht, hpv, hqv, asIntOf, hb]
end ops
end Go.Rx
