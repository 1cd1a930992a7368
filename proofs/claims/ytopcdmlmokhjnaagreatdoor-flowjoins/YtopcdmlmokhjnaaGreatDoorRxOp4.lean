/-
  More operations: conversions, lengths, slices.
-/
import Derived.Test.YtopcdmlmokhjnaaGreatDoorRxOp3
import Derived.Laws.Append
set_option linter.unusedVariables false
set_option linter.unusedSimpArgs false
set_option linter.unusedSectionVars false
namespace Go.Rx

section
variable {E : Env} {P : Program} {nt : Nat} {o : Oper} {tm : TM} {m : Mem} (hE : EnvOK E P)
include hE
/-! ### Conversions -/
theorem step_convert_int {s t : TypeId} {x : Operand} {p : Opd} {ds : TypeDesc} {j j' : IntKind} {n : Int} (ho : o.op = .convert s t x) (hs : ty E s = some ds) (ht : ty E t = some (.int j)) (hx : opdC E nt x = some p) (e : p.f tm = .int j' n) :
    Step E P nt o tm m (.int j (j.wrap n)) m :=
  pure_step fun ρ a w hG htm hr => by
    have hp := (htm _ (by simp [ho, Op.operands]) _ hx)
    rw [e] at hp
    refine ⟨_, ?_, .int _ _⟩
    simp only [execOp, ho, convert, Sem.run_bind, run_und hE w hs, run_und hE w ht, Result.andThen_ok, vr_int hp]
    cases ds <;> rfl
theorem step_convert_float {s t : TypeId} {x : Operand} {p : Opd} {ds : TypeDesc} {j : FloatKind} {j' : IntKind} {n : Int} (ho : o.op = .convert s t x) (hs : ty E s = some ds) (ht : ty E t = some (.float j)) (hx : opdC E nt x = some p) (e : p.f tm = .int j' n) :
    Step E P nt o tm m (.oth (.float j (j.nearest n))) m :=
  pure_step fun ρ a w hG htm hr => by
    have hp := (htm _ (by simp [ho, Op.operands]) _ hx)
    rw [e] at hp
    refine ⟨.float j (j.nearest n), ?_, .oth _ (by intro cs e; cases e)⟩
    simp only [execOp, ho, convert, Sem.run_bind, run_und hE w hs, run_und hE w ht, Result.andThen_ok, vr_int hp]
    cases ds <;> rfl
theorem step_convert_str {s t : TypeId} {x : Operand} {p : Opd} {l : List UInt8} (ho : o.op = .convert s t x) (hs : ty E s = some .string) (ht : ty E t = some .string) (hx : opdC E nt x = some p) (e : p.f tm = .str l) :
    Step E P nt o tm m (.str l) m :=
  pure_step fun ρ a w hG htm hr => by
    have hp := (htm _ (by simp [ho, Op.operands]) _ hx)
    rw [e] at hp
    refine ⟨_, ?_, hp⟩
    simp only [execOp, ho, convert, Sem.run_bind, run_und hE w hs, run_und hE w ht, Result.andThen_ok, vr_str hp]
    rfl
theorem toBytes_val {ρ : Ren} {l : AV} {xs : List Value} {r : List UInt8} (h : toBytes l (fun r => pv (.str r)) = pv (.str r)) (hl : LR ρ l xs) : ∃ ns : List Int, xs = ns.map (Value.int .u8) ∧ r = ns.map fun n => UInt8.ofNat n.toNat := by
  induction xs generalizing l r with
  | nil => cases hl; have := pv_inj (show pv (.str []) = some (VM.mk (.str r) ⟨.e, 0, 0⟩) from h); cases this; exact ⟨[], rfl, rfl⟩
  | cons v xs ih =>
    cases hl with
    | cons hv hl =>
      rename_i x t
      obtain ⟨j, n, rfl, h⟩ := avInt_some (show avInt x (fun j n => match j with | .u8 => toBytes t fun r => pv (.str (UInt8.ofNat n.toNat :: r)) | _ => none) = some (VM.mk (.str r) ⟨.e, 0, 0⟩) from h)
      cases j with
      | u8 =>
        obtain ⟨r', hr', h⟩ := yl_toBytes t _ _ h
        have := pv_inj h; cases this
        obtain ⟨ns, rfl, rfl⟩ := ih (hr' _) hl
        have := vr_int hv; subst this
        exact ⟨n :: ns, rfl, rfl⟩
      | _ => exact nomatch (show (none : R) = _ from h)
theorem foldl_push (ns : List Int) : ∀ s : ByteArray, ns.foldl (fun (r : ByteArray) (n : Int) => r.push (UInt8.ofNat n.toNat)) s = ⟨⟨s.data.toList ++ ns.map fun n => UInt8.ofNat n.toNat⟩⟩ := by
  induction ns with
  | nil => intro s; obtain ⟨⟨l⟩⟩ := s; simp
  | cons n ns ih => intro s; rw [List.foldl_cons, ih]; obtain ⟨⟨l⟩⟩ := s; simp [ByteArray.push]
theorem step_convert_bytes {s t e' : TypeId} {x : Operand} {p : Opd} {b o' n cap : Nat} {l : AV} {r : List UInt8} (ho : o.op = .convert s t x) (hs : ty E s = some (.slice e')) (ht : ty E t = some .string) (he : ty E e' = some (.int .u8)) (hx : opdC E nt x = some p)
    (e : p.f tm = .slc b o' n cap) (hl : ∀ k, rd m b o' n k = k l) (hb : ∀ k : List UInt8 → R, toBytes l k = k r) : Step E P nt o tm m (.str r) m :=
  pure_step fun ρ a w hG htm hr => by
    have hp := (htm _ (by simp [ho, Op.operands]) _ hx)
    rw [e] at hp
    obtain ⟨lc, cap', hlc, _, hpv⟩ := vr_slc hp
    obtain ⟨cs, xs, hcs, hlen, hone, hc, hk⟩ := rd_some hr hlc (show rd m b o' n pv = some (VM.mk l ⟨.e, 0, 0⟩) from hl pv)
    have := pv_inj hk; subst this
    obtain ⟨ns, rfl, rfl⟩ := toBytes_val hE (hb _) hcs
    refine ⟨_, ?_, .str _⟩
    have hrun := run_bytesToString (P := P) w ⟨lc.b, lc.o + o', none⟩ n cap' ns (by rw [← hlen]; exact run_loadCells_list w _ _ hc)
    rw [foldl_push hE] at hrun
    simp only [execOp, ho, convert, Sem.run_bind, run_und hE w hs, run_und hE w ht, run_und hE w he, Result.andThen_ok, hpv, hrun, Sem.run_pure]
    rfl
theorem step_convert_nobytes {s t e' : TypeId} {x : Operand} {p : Opd} {n cap : Nat} (ho : o.op = .convert s t x) (hs : ty E s = some (.slice e')) (ht : ty E t = some .string) (he : ty E e' = some (.int .u8)) (hx : opdC E nt x = some p)
    (e : p.f tm = .oth (.slice none n cap)) : Step E P nt o tm m (.str []) m :=
  pure_step fun ρ a w hG htm hr => by
    have hp := (htm _ (by simp [ho, Op.operands]) _ hx)
    rw [e] at hp
    obtain ⟨hpv, _⟩ := vr_oth hp
    refine ⟨.string .empty, ?_, .str []⟩
    simp only [execOp, ho, convert, Sem.run_bind, run_und hE w hs, run_und hE w ht, run_und hE w he, Result.andThen_ok, hpv, Sem.run_pure, Conv.bytesToString]
theorem cut_cap (w : World) (need old : Nat) (el : TypeId) : need ≤ (Question.appendCap need old el).cut (w.tape w.drawn (.appendCap need old el)) := Nat.le_add_right _ _
theorem bytesA_lr {ρ : Ren} (l : List UInt8) : LR ρ (bytesA l) (l.map fun b => .int .u8 b.toNat) := by
  induction l with
  | nil => exact .nl
  | cons b l ih => exact .cons (.int .u8 (.ofNat b.toNat)) ih
theorem step_convert_tobytes {s t e' : TypeId} {x : Operand} {p : Opd} {l : List UInt8} {m' : Mem} (ho : o.op = .convert s t x) (hs : ty E s = some .string) (ht : ty E t = some (.slice e')) (he : ty E e' = some (.int .u8)) (hx : opdC E nt x = some p)
    (e : p.f tm = .str l) (hv : ∀ k, new m (.cells (bytesA l) (some 1)) k = k m') : Step E P nt o tm m (.slc m.nx 0 (lenL l) (lenL l)) m' := by
  intro ρ a w hG htm hr
  have hp := (htm _ (by simp [ho, Op.operands]) _ hx)
  rw [e] at hp
  have hpv := vr_str hp
  have := pm_inj (show pm _ = some (VM.mk .nl m') from hv pm)
  subst this
  rw [lenL_eq]
  let cap := (Question.appendCap l.length 0 e').cut (w.tape w.drawn (.appendCap l.length 0 e'))
  have hcap : l.length ≤ cap := cut_cap hE w l.length 0 e'
  let xs : List Value := l.map fun b => .int .u8 b.toNat
  let c : Array Value := ⟨xs ++ List.replicate (cap - l.length) (.int .u8 0)⟩
  have hsz : c.size = cap := by simp [c, xs]; omega
  let w' : World := { w with heap := w.heap.push (.cells c e' (c.size, c.size + 1)), drawn := w.drawn + 1 }
  refine ⟨ρ.add m.nx ⟨w.heap.size, 0, some (1, cap)⟩, .slice (some ⟨w.heap.size, 0, none⟩) l.length cap, w', .inl ?_, ?_, ?_⟩
  · have e1 : ((ByteArray.mk ⟨l⟩).data.map fun b => Value.int .u8 b.toNat) ++ Array.replicate (cap - l.length) (.int .u8 0) = c := by
      apply Array.ext'; simp [c, xs]
    have e2 : (ByteArray.mk ⟨l⟩).size = l.length := rfl
    have e3 : ∀ w : World, w.heap[w.heap.size]? = none := fun w => by simp
    have hfz : ({ w with heap := w.heap.push (.cells c e'), drawn := w.drawn + 1 } : World).freeze { block := w.heap.size, off := c.size } 1 = w' := by
      unfold World.freeze
      rw [if_neg (by decide)]
      simp only [w']
      congr 1
      apply Array.ext_getElem?
      intro i
      rw [Array.getElem?_modify, Array.getElem?_push, Array.getElem?_push]
      by_cases hi : i = w.heap.size
      · subst hi; simp
      · rw [if_neg (by omega), if_neg hi, if_neg hi]
    have hsh : ({ w with heap := w.heap.push (.cells c e'), drawn := w.drawn + 1 } : World).shape? w.heap.size = some (e', c.size) := by simp [World.shape?]
    simp only [execOp, ho, convert, Sem.run_bind, run_und hE w hs, run_und hE w ht, run_und hE w he, Result.andThen_ok, hpv, Sem.run_pure, Conv.stringToBytes, e2, run_choose, Question.forced, Bool.false_eq_true, if_false, newRow, run_newObj, markStringish, run_shape]
    have e1' := e1
    simp only [cap] at e1'
    rw [e1', hsh]
    simp only [run_freeze, hfz, Result.andThen_ok]
    rfl
  · refine post_new hr (o := .cells c e' (c.size, c.size + 1)) rfl ⟨⟨_, _, _, xs, rfl, ?_, bytesA_lr hE l, ?_, ?_, ?_⟩, rfl⟩
    · intro i hi; simp; intro h; omega
    · intro v hv; simp only [xs, List.mem_map] at hv; obtain ⟨b, _, rfl⟩ := hv; rfl
    · intro i v hi
      obtain ⟨hlt, hi⟩ := List.getElem?_eq_some_iff.1 hi
      simp only [c, Nat.zero_add]
      rw [show ((⟨xs ++ List.replicate (cap - l.length) (.int .u8 0)⟩ : Array Value)[i]?) = (xs ++ List.replicate (cap - l.length) (.int .u8 0))[i]? by simp]
      rw [List.getElem?_append_left hlt, List.getElem?_eq_getElem hlt, hi]
    · intro es lim h; cases h; exact Nat.le_of_eq hsz.symm
  · refine VR.slc (o := 0) (l := ⟨w.heap.size, 0, some (1, cap)⟩) Ren.add_same ?_
    show l.length ≤ cap ∧ (l.length < cap → 0 + 0 + cap * 1 ≤ cap)
    exact ⟨hcap, fun _ => by omega⟩

/-! ### Lengths -/
theorem builtin_run {c : Call} {b : Builtin} {a : Act} {v : Value} {w w' : World} (ho : o.op = .call c) (hc : c.callee = .builtin b) (f : Array TypeId → TypeId → Array Value → Sem Value)
    (hf : ∀ ts t cs as, builtin b ts t cs as = (do pure (.value (← f ts t as)))) (h : (f c.argTypes o.type (c.args.map a.eval)).run P w = .ok v w') : (execOp a.eval o).run P w = .ok (.value v) w' := by
  simp only [execOp, ho, resolve, hc, Sem.run_bind, Sem.run_pure, Result.andThen_ok, invoke, hf, h]
end
end Go.Rx
