/-
  More operations: building values and rows.
-/
import Derived.Test.YtopcdmlmokhjnaaGreatDoorRxOp6
set_option linter.unusedVariables false
set_option linter.unusedSimpArgs false
set_option linter.unusedSectionVars false
namespace Go.Rx

theorem zip_over (off : Nat) (vs : List Value) : ∀ (j : Nat) (c : Array Value), (vs.zipIdx j).foldl (fun (cs : Array Value) (p : Value × Nat) => cs.setIfInBounds (off + p.2) p.1) c = over c (off + j) vs := by
  induction vs with
  | nil => intro j c; rfl
  | cons v vs ih => intro j c; rw [List.zipIdx_cons, List.foldl_cons, ih]; rfl
theorem over_toList (c : Array Value) (i : Nat) (vs : List Value) (h : i + vs.length ≤ c.size) : (over c i vs).toList = c.toList.take i ++ vs ++ c.toList.drop (i + vs.length) := by
  apply List.ext_getElem?
  intro j
  rw [Array.getElem?_toList, get_over' vs c i j h]
  by_cases h1 : j < i
  · rw [if_neg (by omega), List.append_assoc, List.getElem?_append_left (by simp; omega), List.getElem?_take, if_pos h1]; simp
  · by_cases h2 : j < i + vs.length
    · rw [if_pos (by omega), List.append_assoc, List.getElem?_append_right (by simp; omega), List.getElem?_append_left (by simp; omega)]
      congr 1; simp; omega
    · rw [if_neg (by omega), List.getElem?_append_right (by simp; omega), List.getElem?_drop]
      simp only [Array.getElem?_toList]
      congr 1; simp; omega
/-- parts beside parts -/
inductive PR (ρ : Ren) (place : Nat → Option (Nat × Nat)) : List (Nat × Nat × AV) → List (Nat × Value) → Prop
  | nil : PR ρ place [] []
  | cons {i off size : Nat} {a : AV} {v : Value} {l : List (Nat × Nat × AV)} {m : List (Nat × Value)} (hp : place i = some (off, size)) (hv : VR ρ a v) (h : PR ρ place l m) : PR ρ place ((off, size, a) :: l) ((i, v) :: m)
theorem fillA_val {ρ : Ren} {place : Nat → Option (Nat × Nat)} {l : List (Nat × Nat × AV)} {m : List (Nat × Value)} (h : PR ρ place l m) : ∀ {cs cs' : AV} {xs : List Value}, fillA l cs pv = pv cs' → LR ρ cs xs → (∀ x ∈ xs, x.oneCell' = true) →
    ∃ ys, Instr.fill place ⟨xs⟩ m = some ⟨ys⟩ ∧ LR ρ cs' ys ∧ (∀ x ∈ ys, x.oneCell' = true) ∧ ys.length = xs.length := by
  induction h with
  | nil => intro cs cs' xs h hl hone; have := pv_inj (show pv cs = _ from h); subst this; exact ⟨xs, rfl, hl, hone, rfl⟩
  | @cons i off size a v l m hp hv h ih =>
    intro cs cs' xs hf hl hone
    obtain ⟨zs, hzs, hzo, h1⟩ := cellsK_some (show (cellsK a fun zs => br (Nat.beq (lenA zs) size) (spliceA zs off cs fun cs' => fillA l cs' pv) none) = some (VM.mk cs' ⟨.e, 0, 0⟩) from hf) hv
    obtain ⟨h2, h3⟩ := br_none h1
    have h2 := nbt h2
    obtain ⟨b, hb, hlen, h4⟩ := spliceA_some h3 hzs hl
    have hlen' : off + v.cells.size ≤ xs.length := by simpa using hlen
    have hov := over_toList ⟨xs⟩ off v.cells.toList (by simpa using hlen')
    have hb2 : ∀ x ∈ xs.take off ++ v.cells.toList ++ xs.drop (off + v.cells.toList.length), x.oneCell' = true := by
      intro x hx
      rcases List.mem_append.1 hx with hx | hx
      · rcases List.mem_append.1 hx with hx | hx
        · exact hone x (List.mem_of_mem_take hx)
        · exact hzo x hx
      · exact hone x (List.mem_of_mem_drop hx)
    obtain ⟨ys, h5, h6, h7, h8⟩ := ih h4 hb hb2
    refine ⟨ys, ?_, h6, h7, ?_⟩
    · have hsz : v.cells.size = size := by rw [← h2, hzs.length]; simp
      simp only [Instr.fill, hp]
      rw [if_neg (by simp [hsz]; omega)]
      have e : v.cells.zipIdx.foldl (fun (cs : Array Value) (x : Value × Nat) => cs.setIfInBounds (off + x.2) x.1) ⟨xs⟩ = ⟨xs.take off ++ v.cells.toList ++ xs.drop (off + v.cells.toList.length)⟩ := by
        rw [← Array.foldl_toList, Array.toList_zipIdx, zip_over]
        apply Array.ext'
        rw [Nat.add_zero, hov]
      rw [← h5]
      congr 1
    · rw [h8]; simp; omega
theorem rep_get (l : List Value) (n : Nat) : ∀ (i : Nat), i < n * l.length → (List.replicate n l).flatten[i]? = l[i % l.length]? := by
  induction n with
  | zero => intro i h; simp at h
  | succ n ih =>
    intro i h
    rw [List.replicate_succ, List.flatten_cons]
    have e : (n + 1) * l.length = n * l.length + l.length := Nat.succ_mul _ _
    by_cases hi : i < l.length
    · rw [List.getElem?_append_left hi, Nat.mod_eq_of_lt hi]
    · rw [List.getElem?_append_right (by omega), ih _ (by omega), ← Nat.mod_eq_sub_mod (by omega)]
theorem rep_row (z : Array Value) (n : Nat) : (List.replicate n z.toList).flatten = ((Array.range (n * z.size)).map (fun i => z[i % z.size]!)).toList := by
  apply List.ext_getElem?
  intro i
  by_cases hi : i < n * z.size
  · rw [rep_get _ _ _ (by simpa using hi)]
    have hz : 0 < z.size := by rcases Nat.eq_zero_or_pos z.size with h | h; (rw [h] at hi; simp at hi); exact h
    have hm : i % z.size < z.size := Nat.mod_lt _ hz
    simp [hi, hm]
  · have h1 : (List.replicate n z.toList).flatten.length = n * z.size := by simp
    rw [List.getElem?_eq_none (by omega), List.getElem?_eq_none (by simp; omega)]

section
variable {E : Env} {P : Program} {nt : Nat} {o : Oper} {tm : TM} {m : Mem} (hE : EnvOK E P)
include hE
omit hE in
theorem partsC_ok {place : Nat → Option (Nat × Nat)} {ps : List (Nat × Operand)} {f : TM → List (Nat × Nat × AV)} {ρ : Ren} {a : Act} (h : partsC E nt place ps = some f) (ht : OpsR E nt o ρ tm a) (hm : ∀ p ∈ ps, p.2 ∈ o.op.operands) : PR ρ place (f tm) (ps.map fun (i, x) => (i, a.eval x)) := by
  induction ps generalizing f with
  | nil => cases h; exact .nil
  | cons p ps ih =>
    obtain ⟨i, x⟩ := p
    obtain ⟨q, hq, h1⟩ := orec_get (show orec none (fun (q : Nat × Nat) => orec none (fun (x : Opd) => orec none (fun r => some fun tm => (q.1, q.2, x.f tm) :: r tm) (partsC E nt place ps)) (opdC E nt x)) (place i) = some f from h)
    obtain ⟨y, hy, h2⟩ := orec_get h1
    obtain ⟨r, hr, h3⟩ := orec_get h2
    cases h3
    exact .cons hq (ht x (hm (i, x) (by simp)) y hy) (ih hr fun p hp => hm p (by simp [hp]))
theorem places_run {fs : List Field} {pl : List (Nat × Nat)} (h : placesS E fs = some pl) (w : World) : (fs.mapM fun f => do pure (f.offset, ← sizeOf f.type) : Sem _).run P w = .ok pl w := by
  induction fs generalizing pl with
  | nil => cases h; simp
  | cons f fs ih =>
    obtain ⟨n, hn, h1⟩ := orec_get (show orec none (fun n => orec none (fun r => some ((f.offset, n) :: r)) (placesS E fs)) (sz E f.type) = some pl from h)
    obtain ⟨r, hr, h2⟩ := orec_get h1
    cases h2
    simp only [List.mapM_cons, Sem.run_bind, sz_ok hE w hn, Result.andThen_ok, Sem.run_pure, ih hr]
theorem step_build_struct {t : TypeId} {ps : Array (Nat × Operand)} {z cs : AV} {fs : Array Field} {pl : List (Nat × Nat)} {f : TM → List (Nat × Nat × AV)} (ho : o.op = .build t ps) (hz : zc E t = some z) (ht : ty E t = some (.struct fs)) (hpl : placesS E fs.toList = some pl)
    (hf : partsC E nt (fun i => nthL pl i) ps.toList = some f) (hv : ∀ k, fillA (f tm) z k = k cs) : Step E P nt o tm m (.agg cs) m :=
  pure_step fun ρ a w hG htm hr => by
    obtain ⟨v, hrun, hl, hone⟩ := zc_ok hE w hz ρ
    have hp := partsC_ok hf htm (fun p hp => by rw [ho]; show p.2 ∈ (ps.toList.map (·.2)).toArray; simpa using ⟨p.1, by simpa using hp⟩)
    obtain ⟨ys, h1, h2, h3, h4⟩ := fillA_val hp (hv pv) hl hone
    refine ⟨.agg ⟨ys⟩, ?_, .agg h2 h3⟩
    have hm : (fs.mapM (fun f => do pure (f.offset, ← sizeOf f.type) : Field → Sem (Nat × Nat))).run P w = .ok pl.toArray w := by
      rw [Array.mapM_eq_mapM_toList, Sem.run_map, places_run hE hpl w]; rfl
    have e1 : (fun i => nthL pl i) = (fun i => pl.toArray[i]?) := by funext i; rw [nthL_eq]; simp
    rw [e1] at h1
    have e2 : (ps.map fun (i, x) => (i, a.eval x)).toList = ps.toList.map fun (i, x) => (i, a.eval x) := by simp
    simp only [execOp, ho, Instr.build, Sem.run_bind, hrun, Result.andThen_ok, run_und hE w ht, hm, e2]
    rw [show (Array.mk v.cells.toList) = v.cells from rfl] at h1
    rw [h1]; rfl
theorem step_build_array {t el : TypeId} {ps : Array (Nat × Operand)} {z cs : AV} {n len : Nat} {f : TM → List (Nat × Nat × AV)} (ho : o.op = .build t ps) (hz : zc E t = some z) (ht : ty E t = some (.array len el)) (hn : sz E el = some n)
    (hf : partsC E nt (fun i => some (Nat.mul i n, n)) ps.toList = some f) (hv : ∀ k, fillA (f tm) z k = k cs) : Step E P nt o tm m (.agg cs) m :=
  pure_step fun ρ a w hG htm hr => by
    obtain ⟨v, hrun, hl, hone⟩ := zc_ok hE w hz ρ
    have hp := partsC_ok hf htm (fun p hp => by rw [ho]; show p.2 ∈ (ps.toList.map (·.2)).toArray; simpa using ⟨p.1, by simpa using hp⟩)
    obtain ⟨ys, h1, h2, h3, h4⟩ := fillA_val hp (hv pv) hl hone
    refine ⟨.agg ⟨ys⟩, ?_, .agg h2 h3⟩
    have e2 : (ps.map fun (i, x) => (i, a.eval x)).toList = ps.toList.map fun (i, x) => (i, a.eval x) := by simp
    simp only [execOp, ho, Instr.build, Sem.run_bind, hrun, Result.andThen_ok, run_und hE w ht, sz_ok hE w hn, e2]
    rw [show (Array.mk v.cells.toList) = v.cells from rfl] at h1
    have h1' : Instr.fill (fun i => some (i * n, n)) v.cells (ps.toList.map fun (i, x) => (i, a.eval x)) = some ⟨ys⟩ := h1
    rw [h1']; rfl
omit hE in
theorem new_row {ρ : Ren} {w : World} {cs : AV} {l : List Value} {el : TypeId} {lo : Nat} (hr : Rel ρ m w) (hl : LR ρ cs l) (hc : ∀ x ∈ l, x.oneCell' = true) :
    Post ρ m w (ρ.add m.nx ⟨w.heap.size, 0, none⟩) ⟨m.hp.set (some (.cells cs none)) m.nx, Nat.succ m.nx, lo⟩ { w with heap := w.heap.push (.cells ⟨l⟩ el) } := by
  refine post_new hr rfl ⟨⟨_, _, _, l, rfl, ?_, hl.mono (Ren.le_add hr.nx_none), hc, ?_, ?_⟩, rfl⟩
  · intro i hi; simp
  · intro i v hi; simpa using hi
  · intro es lim h; cases h
theorem zero_row {el : TypeId} {z : AV} {n len : Nat} {ρ : Ren} {w : World} (hz : zc E el = some z) (hlz : lenA z = n) :
    ∃ (v : Value) (zs : Array Value), (zeroValue el).run P w = .ok v w ∧ ((len * n = 0 ∧ zs = #[]) ∨ (len * n ≠ 0 ∧ zs = v.cells)) ∧ LR ρ (repA len z) ((Array.range (len * n)).map (fun i => zs[i % zs.size]!)).toList ∧ ∀ x ∈ ((Array.range (len * n)).map (fun i => zs[i % zs.size]!)).toList, x.oneCell' = true := by
  obtain ⟨v, hrun, hl, hone⟩ := zc_ok hE w hz ρ
  have hsz : v.cells.size = n := by rw [← hlz, hl.length]; simp
  have hrep := hl.rep len
  have hrow := rep_row v.cells len
  by_cases h0 : len * n = 0
  · refine ⟨v, #[], hrun, .inl ⟨h0, rfl⟩, ?_, ?_⟩
    · rw [hrow, hsz, h0] at hrep
      rw [h0]; simpa using hrep
    · rw [h0]; intro x hx; simp at hx
  · refine ⟨v, v.cells, hrun, .inr ⟨h0, rfl⟩, ?_, ?_⟩
    · rw [hrow, hsz] at hrep; exact hsz ▸ hrep
    · intro x hx
      have e := hrow
      rw [hsz] at e
      have hx' : x ∈ ((Array.range (len * n)).map (fun i => v.cells[i % n]!)).toList := hsz ▸ hx
      rw [← e] at hx'
      obtain ⟨l, hl', hxl⟩ := List.mem_flatten.1 hx'
      rw [(List.mem_replicate.1 hl').2] at hxl
      exact hone x hxl
theorem step_buildSlice {t el : TypeId} {len n : Nat} {ps : Array (Nat × Operand)} {z cs : AV} {f : TM → List (Nat × Nat × AV)} {m' : Mem} (ho : o.op = .buildSlice t len ps) (ht : ty E t = some (.slice el)) (hn : sz E el = some n) (hz : zc E el = some z)
    (hf : partsC E nt (fun i => some (Nat.mul i n, n)) ps.toList = some f) (hbig : Nat.mul len n ≤ 1000000) (hlz : lenA z = n) (hc : ∀ k, fillA (f tm) (repA len z) k = k cs) (hv : ∀ k, new m (.cells cs none) k = k m') : Step E P nt o tm m (.slc m.nx 0 len len) m' := by
  intro ρ a w hG htm hr
  have hp := partsC_ok hf htm (fun p hp => by rw [ho]; show p.2 ∈ (ps.toList.map (·.2)).toArray; simpa using ⟨p.1, by simpa using hp⟩)
  obtain ⟨v, zs, hzv, hzs, hl, hone⟩ := zero_row hE (len := len) (ρ := ρ) (w := w) hz hlz
  obtain ⟨ys, h1, h2, h3, h4⟩ := fillA_val hp (hc pv) hl hone
  have := pm_inj (show pm _ = some (VM.mk .nl m') from hv pm)
  subst this
  have h1' : Instr.fill (fun i => some (i * n, n)) ((Array.range (len * n)).map (fun i => zs[i % zs.size]!)) (ps.toList.map fun (i, x) => (i, a.eval x)) = some ⟨ys⟩ := h1
  refine ⟨_, .slice (some ⟨w.heap.size, 0, none⟩) len len, _, .inl ?_, new_row (el := el) hr h2 h3, VR.slc (o := 0) Ren.add_same rfl⟩
  have e2 : (ps.map fun (i, x) => (i, a.eval x)).toList = ps.toList.map fun (i, x) => (i, a.eval x) := by simp
  have hb : ¬ (len * n > 2 ^ 24) := by have : len * n ≤ 1000000 := hbig; omega
  rcases hzs with ⟨h0, rfl⟩ | ⟨h0, rfl⟩
  · simp only [execOp, ho, Instr.buildSlice, Sem.run_bind, run_und hE w ht, Result.andThen_ok, sz_ok hE w hn, if_neg hb, if_pos h0, Sem.run_pure, e2, h1', newRow, run_newObj]
  · simp only [execOp, ho, Instr.buildSlice, Sem.run_bind, run_und hE w ht, Result.andThen_ok, sz_ok hE w hn, if_neg hb, if_neg h0, Sem.run_pure, hzv, e2, h1', newRow, run_newObj]
theorem step_makeSlice {t el : TypeId} {x y : Operand} {p q : Opd} {n bt l c : Nat} {jl jc : IntKind} {z : AV} {m' : Mem} (ho : o.op = .makeSlice t x y) (ht : ty E t = some (.slice el)) (hx : opdC E nt x = some p) (hy : opdC E nt y = some q) (hn : sz E el = some n) (hz : zc E el = some z)
    (hbt : byt E el = some bt) (hb : bt ≤ 1000000) (hlz : lenA z = n) (ec : q.f tm = .int jc (.ofNat c)) (hc : c < 100000) (el' : p.f tm = .int jl (.ofNat l)) (hl : l < Nat.succ c) (hv : ∀ k, new m (.cells (repA c z) none) k = k m') : Step E P nt o tm m (.slc m.nx 0 l c) m' := by
  intro ρ a w hG htm hr
  have hp := (htm _ (by simp [ho, Op.operands]) _ hx)
  have hq := (htm _ (by simp [ho, Op.operands]) _ hy)
  rw [el'] at hp
  rw [ec] at hq
  obtain ⟨i, hi, hib⟩ := byt_ok hE w hbt
  obtain ⟨v, zs, hzv, hzs, hlr, hone⟩ := zero_row hE (len := c) (ρ := ρ) (w := w) hz hlz
  have := pm_inj (show pm _ = some (VM.mk .nl m') from hv pm)
  subst this
  refine ⟨_, .slice (some ⟨w.heap.size, 0, none⟩) l c, _, .inl ?_, new_row (el := el) hr hlr hone, VR.slc (o := 0) Ren.add_same rfl⟩
  have w1 : IntKind.i64.wrap (l : Int) = (l : Int) := IntWalk.i64_in _ (by omega)
  have w2 : IntKind.i64.wrap (c : Int) = (c : Int) := IntWalk.i64_in _ (by omega)
  have hm : bt * c ≤ 1000000 * 100000 := Nat.mul_le_mul hb (by omega)
  have hm' : ((bt : Int) * (c : Int)) ≤ 100000000000 := by
    have h : ((bt * c : Nat) : Int) ≤ 100000000000 := by omega
    rw [Int.natCast_mul] at h
    exact h
  have c1 : decide ((c : Int) < 0) = false := decide_eq_false (by omega)
  have c1' : decide ((bt : Int) * (c : Int) > 2 ^ 48) = false := decide_eq_false (by omega)
  have c2 : decide ((l : Int) < 0) = false := decide_eq_false (by omega)
  have c3 : decide ((l : Int) > (c : Int)) = false := decide_eq_false (by omega)
  rcases hzs with ⟨h0, rfl⟩ | ⟨h0, rfl⟩
  · simp only [execOp, ho, Instr.makeSlice, Sem.run_bind, run_und hE w ht, Result.andThen_ok, asInt, vr_int hp, vr_int hq, asIntOf, Sem.run_pure, hi, hib, Int.ofNat_eq_natCast, w1, w2, c1, c1', c2, c3, Bool.or_false, Bool.false_eq_true, if_false, run_askRoom, sz_ok hE w hn, Int.toNat_natCast, if_pos h0, newRow, run_newObj]
  · simp only [execOp, ho, Instr.makeSlice, Sem.run_bind, run_und hE w ht, Result.andThen_ok, asInt, vr_int hp, vr_int hq, asIntOf, Sem.run_pure, hi, hib, Int.ofNat_eq_natCast, w1, w2, c1, c1', c2, c3, Bool.or_false, Bool.false_eq_true, if_false, run_askRoom, sz_ok hE w hn, Int.toNat_natCast, if_neg h0, hzv, newRow, run_newObj]
end
end Go.Rx
