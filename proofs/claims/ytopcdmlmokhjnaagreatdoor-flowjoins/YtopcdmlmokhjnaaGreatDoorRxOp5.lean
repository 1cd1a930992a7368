/-
  More operations: lengths, slices, maps.
-/
import Derived.Test.YtopcdmlmokhjnaaGreatDoorRxOp4
set_option linter.unusedVariables false
set_option linter.unusedSimpArgs false
set_option linter.unusedSectionVars false
namespace Go.Rx

noncomputable def pn (n : Nat) : R := pv (.int .i64 (.ofNat n))
theorem pn_inj {a b : Nat} (h : pn a = some (VM.mk (.int .i64 (.ofNat b)) ⟨.e, 0, 0⟩)) : a = b := by cases h; rfl
noncomputable def pl (n : List UInt8) : R := pv (.str n)

/-- a value that has a length -/
theorem lenOf_val {ρ : Ren} {x : AV} {vx : Value} {n : Nat} (h : lenOf x pn = pn n) (vr : VR ρ x vx) : (∃ s : List UInt8, vx = .string ⟨⟨s⟩⟩ ∧ s.length = n ∧ x = .str s) ∨ (∃ a c, vx = .slice a n c) := by
  rcases avStrSlc_some (show avStrSlc x (fun s => pn (lenL s)) (fun _ _ n _ => pn n) (fun n _ => pn n) = some (VM.mk (.int .i64 (.ofNat n)) ⟨.e, 0, 0⟩) from h) with ⟨s, rfl, h⟩ | ⟨b, o, l, c, rfl, h⟩ | ⟨l, c, rfl, h⟩
  · have := pn_inj h
    rw [lenL_eq] at this
    exact .inl ⟨s, vr_str vr, this, rfl⟩
  · have := pn_inj h; subst this
    obtain ⟨k, c', _, _, e⟩ := vr_slc vr
    exact .inr ⟨_, _, e⟩
  · have := pn_inj h; subst this
    obtain ⟨e, _⟩ := vr_oth vr
    exact .inr ⟨_, _, e⟩
section
variable {E : Env} {P : Program} {nt : Nat} {o : Oper} {tm : TM} {m : Mem} (hE : EnvOK E P)
include hE
theorem args1 {c : Call} {x : Operand} {a : Act} (h : c.args.toList = [x]) : c.args.map a.eval = #[a.eval x] := by
  obtain ⟨⟨l⟩⟩ := show ∃ l : Array Operand, l = c.args from ⟨_, rfl⟩
  apply Array.ext'; simp [h]
theorem args2 {c : Call} {x y : Operand} {a : Act} (h : c.args.toList = [x, y]) : c.args.map a.eval = #[a.eval x, a.eval y] := by
  apply Array.ext'; simp [h]
theorem nthL_arr {α : Type} {l : Array α} {i : Nat} {x : α} (h : nthL l.toList i = some x) : l[i]? = some x := by rw [nthL_eq] at h; simpa using h
theorem step_len_array {c : Call} {x : Operand} {t el : TypeId} {n : Nat} (ho : o.op = .call c) (hc : c.callee = .builtin .len) (ha : c.args.toList = [x]) (ht : nthL c.argTypes.toList 0 = some t) (hd : ty E t = some (.array n el)) :
    Step E P nt o tm m (.int .i64 (.ofNat n)) m :=
  pure_step fun ρ a w hG htm hr => ⟨_, builtin_run hE ho hc Builtin.len_ (fun _ _ _ _ => rfl) (by
    simp only [Builtin.len_, nthL_arr hE ht, args1 hE ha, Sem.run_bind, run_und hE w hd]
    simp [run_und hE w hd, goInt]), .int _ _⟩
theorem step_len_parray {c : Call} {x : Operand} {t el q : TypeId} {n : Nat} (ho : o.op = .call c) (hc : c.callee = .builtin .len) (ha : c.args.toList = [x]) (ht : nthL c.argTypes.toList 0 = some t) (hd : ty E t = some (.pointer q)) (hq : ty E q = some (.array n el)) :
    Step E P nt o tm m (.int .i64 (.ofNat n)) m :=
  pure_step fun ρ a w hG htm hr => ⟨_, builtin_run hE ho hc Builtin.len_ (fun _ _ _ _ => rfl) (by
    simp [Builtin.len_, nthL_arr hE ht, args1 hE ha, run_und hE w hd, run_und hE w hq, goInt]), .int _ _⟩
theorem step_len_str {c : Call} {x : Operand} {p : Opd} {t : TypeId} {s : List UInt8} (ho : o.op = .call c) (hc : c.callee = .builtin .len) (ha : c.args.toList = [x]) (ht : nthL c.argTypes.toList 0 = some t) (hd : ty E t = some .string)
    (hx : opdC E nt x = some p) (e : p.f tm = .str s) : Step E P nt o tm m (.int .i64 (.ofNat (lenL s))) m :=
  pure_step fun ρ a w hG htm hr => ⟨_, builtin_run hE ho hc Builtin.len_ (fun _ _ _ _ => rfl) (by
    have hp := (htm _ (mem_call ho (by simp [ha])) _ hx)
    rw [e] at hp
    have hsz : (ByteArray.mk ⟨s⟩).size = lenL s := by rw [lenL_eq]; rfl
    simp [Builtin.len_, nthL_arr hE ht, args1 hE ha, run_und hE w hd, vr_str hp, goInt, hsz]), .int _ _⟩
/-- what is known of a slice, nil or not -/
theorem slc_len {ρ : Ren} {x : AV} {vx : Value} {n : Nat} (h : avSlc x (fun _ _ n _ => pn n) (fun n _ => pn n) = pn n) (vr : VR ρ x vx) : ∃ a c, vx = .slice a n c := by
  rcases avSlc_some (show avSlc x (fun _ _ n _ => pn n) (fun n _ => pn n) = some (VM.mk (.int .i64 (.ofNat n)) ⟨.e, 0, 0⟩) from h) with ⟨b, o, l, c, rfl, h⟩ | ⟨l, c, rfl, h⟩
  · have := pn_inj h; subst this
    obtain ⟨k, c', _, _, e⟩ := vr_slc vr
    exact ⟨_, _, e⟩
  · have := pn_inj h; subst this
    obtain ⟨e, _⟩ := vr_oth vr
    exact ⟨_, _, e⟩
theorem step_len_slc {c : Call} {x : Operand} {p : Opd} {t el : TypeId} {n : Nat} (ho : o.op = .call c) (hc : c.callee = .builtin .len) (ha : c.args.toList = [x]) (ht : nthL c.argTypes.toList 0 = some t) (hd : ty E t = some (.slice el))
    (hx : opdC E nt x = some p) (hv : ∀ k : Nat → R, avSlc (p.f tm) (fun _ _ n _ => k n) (fun n _ => k n) = k n) : Step E P nt o tm m (.int .i64 (.ofNat n)) m :=
  pure_step fun ρ a w hG htm hr => ⟨_, builtin_run hE ho hc Builtin.len_ (fun _ _ _ _ => rfl) (by
    obtain ⟨_, _, e⟩ := slc_len hE (hv pn) ((htm _ (mem_call ho (by simp [ha])) _ hx))
    simp [Builtin.len_, nthL_arr hE ht, args1 hE ha, run_und hE w hd, e, goInt]), .int _ _⟩
theorem capKnown_val {ρ : Ren} {w : World} {b : Nat} {k : R} {u : Nat → R} {r : VM} (h : capKnown m b k u = some r) (hr : Rel ρ m w) {l : Loc} (hl : ρ b = some l) : (l.ext = none ∧ k = some r) ∨ (∃ es lim, l.ext = some (es, lim) ∧ u es = some r) := by
  obtain ⟨x, hx, h⟩ := orec_get h
  cases x with
  | cells vs ext =>
    obtain ⟨c, e, fz, xs, _, _, _, _, _, _, he⟩ := hr.cells hx hl
    have h : orec k u ext = some r := h
    rw [he] at h
    cases hext : l.ext with
    | none => rw [hext] at h; exact .inl ⟨rfl, h⟩
    | some p => rw [hext] at h; exact .inr ⟨p.1, p.2, rfl, h⟩
  | _ => exact nomatch (show (none : R) = some r from h)
theorem step_cap_slc {c : Call} {x : Operand} {p : Opd} {t el : TypeId} {b o' len n : Nat} (ho : o.op = .call c) (hc : c.callee = .builtin .cap) (ha : c.args.toList = [x]) (ht : nthL c.argTypes.toList 0 = some t) (hd : ty E t = some (.slice el))
    (hx : opdC E nt x = some p) (e : p.f tm = .slc b o' len n) (hv : capKnown m b (pn n) (fun _ => none) = pn n) : Step E P nt o tm m (.int .i64 (.ofNat n)) m :=
  pure_step fun ρ a w hG htm hr => ⟨_, builtin_run hE ho hc Builtin.cap_ (fun _ _ _ _ => rfl) (by
    have hp := (htm _ (mem_call ho (by simp [ha])) _ hx)
    rw [e] at hp
    obtain ⟨l, cap', hl, hcap, hpv⟩ := vr_slc hp
    rcases capKnown_val hE hv hr hl with ⟨he, _⟩ | ⟨_, _, _, h⟩
    · have hcap : cap' = n := by simpa [CapR, he] using hcap
      simp [Builtin.cap_, nthL_arr hE ht, args1 hE ha, run_und hE w hd, hpv, goInt, hcap]
    · cases h), .int _ _⟩
theorem step_cap_nil {c : Call} {x : Operand} {p : Opd} {t el : TypeId} {len n : Nat} (ho : o.op = .call c) (hc : c.callee = .builtin .cap) (ha : c.args.toList = [x]) (ht : nthL c.argTypes.toList 0 = some t) (hd : ty E t = some (.slice el))
    (hx : opdC E nt x = some p) (e : p.f tm = .oth (.slice none len n)) : Step E P nt o tm m (.int .i64 (.ofNat n)) m :=
  pure_step fun ρ a w hG htm hr => ⟨_, builtin_run hE ho hc Builtin.cap_ (fun _ _ _ _ => rfl) (by
    have hp := (htm _ (mem_call ho (by simp [ha])) _ hx)
    rw [e] at hp
    obtain ⟨hpv, _⟩ := vr_oth hp
    simp [Builtin.cap_, nthL_arr hE ht, args1 hE ha, run_und hE w hd, hpv, goInt]), .int _ _⟩
theorem step_minMax {c : Call} {x y : Operand} {p q : Opd} {b : Builtin} {v : AV} (ho : o.op = .call c) (hc : c.callee = .builtin b) (hb : b = .min ∨ b = .max) (ha : c.args.toList = [x, y])
    (hx : opdC E nt x = some p) (hy : opdC E nt y = some q) (hv : ∀ k : AV → R, minMax b (p.f tm) (q.f tm) k = k v) : Step E P nt o tm m v m :=
  pure_step fun ρ a w hG htm hr => by
    have hp := (htm _ (mem_call ho (by simp [ha])) _ hx)
    have hq := (htm _ (mem_call ho (by simp [ha])) _ hy)
    obtain ⟨j, n, e, h1⟩ := avInt_some (show minMax b (p.f tm) (q.f tm) pv = some (VM.mk v ⟨.e, 0, 0⟩) from hv pv)
    obtain ⟨j', n', e', h⟩ := avInt_some h1
    rw [e] at hp
    rw [e'] at hq
    rcases hb with rfl | rfl
    · have := pv_inj h; subst this
      refine ⟨.int j (if n' < n then n' else n), builtin_run hE ho hc Builtin.min_ (fun _ _ _ _ => rfl) (by simp [Builtin.min_, args2 hE ha, vr_int hp, vr_int hq, Builtin.min2]), ?_⟩
      by_cases hlt : n' < n
      · rw [decide_eq_true hlt, if_pos hlt]; exact .int _ _
      · rw [decide_eq_false hlt, if_neg hlt]; exact .int _ _
    · have := pv_inj h; subst this
      refine ⟨.int j (if n' > n then n' else n), builtin_run hE ho hc Builtin.max_ (fun _ _ _ _ => rfl) (by simp [Builtin.max_, args2 hE ha, vr_int hp, vr_int hq, Builtin.max2]), ?_⟩
      by_cases hlt : n' > n
      · rw [decide_eq_true hlt, if_pos hlt]; exact .int _ _
      · rw [decide_eq_false hlt, if_neg hlt]; exact .int _ _

/-! ### Slices -/
def OptR (ρ : Ren) (x : Option AV) (v : Option Value) : Prop := (x = none ∧ v = none) ∨ ∃ a b, x = some a ∧ v = some b ∧ VR ρ a b
omit hE in
theorem optC_ok {x : Option Operand} {f : TM → Option AV} {ρ : Ren} {a : Act} (h : optC E nt x = some f) (ht : OpsR E nt o ρ tm a) (hm : ∀ y, x = some y → y ∈ o.op.operands) : OptR ρ (f tm) (x.map a.eval) := by
  cases x with
  | none => cases h; exact .inl ⟨rfl, rfl⟩
  | some x =>
    obtain ⟨p, hp, h⟩ := orec_get (show orec none (fun (p : Opd) => some fun tm => some (p.f tm)) (opdC E nt x) = some f from h)
    cases h
    exact .inr ⟨_, _, rfl, rfl, ht x (hm x rfl) p hp⟩
omit hE in
theorem optN_val {ρ : Ren} {x : Option AV} {v : Option Value} {d most most' n : Nat} {w : World} (code : BoundsCode) (h : optN x d most pn = pn n) (hr : OptR ρ x v) (hm : most ≤ most') :
    n ≤ most ∧ (v = none → n = d) ∧ ∀ y, v = some y → (Instr.sliceBound y most' code).run P w = .ok n w := by
  rcases hr with ⟨rfl, rfl⟩ | ⟨a, b, rfl, rfl, hab⟩
  · obtain ⟨h1, h⟩ := br_none (show br (Nat.ble d most) (pn d) none = some (VM.mk (.int .i64 (.ofNat n)) ⟨.e, 0, 0⟩) from h)
    have := pn_inj h; subst this
    exact ⟨nble h1, fun _ => rfl, fun y h => by cases h⟩
  · obtain ⟨j, k, rfl, hk, h⟩ := natBelow_some (show natBelow a (Nat.succ most) pn = some (VM.mk (.int .i64 (.ofNat n)) ⟨.e, 0, 0⟩) from h)
    have := pn_inj h; subst this
    have := vr_int hab; subst this
    refine ⟨by omega, fun h => (by cases h), fun y h => ?_⟩
    cases h
    have : (k : Int) ≤ (most' : Int) := by omega
    simp [Instr.sliceBound, asIntOf, this]
omit hE in
theorem bounds_val {ρ : Ren} {lo hi : Option AV} {low high : Option Value} {len cap most h l : Nat} {w : World} (isS : Bool) (hh : optN hi len most pn = pn h) (hl : optN lo 0 h pn = pn l) (hrh : OptR ρ hi high) (hrl : OptR ρ lo low) (hm : most ≤ cap) :
    (Instr.sliceBounds isS len cap low high none).run P w = .ok (l, h, cap) w ∧ l ≤ h ∧ h ≤ most := by
  have a1 := optN_val (P := P) (w := w) (if isS then .sliceAcap else .sliceAlen) hh hrh hm
  have a2 := optN_val (P := P) (w := w) .sliceB hl hrl (Nat.le_refl _)
  refine ⟨?_, a2.1, a1.1⟩
  cases high with
  | none =>
    have := a1.2.1 rfl; subst this
    cases low with
    | none => have := a2.2.1 rfl; subst this; simp [Instr.sliceBounds]
    | some y => simp [Instr.sliceBounds, a2.2.2 y rfl]
  | some z =>
    cases low with
    | none => have := a2.2.1 rfl; subst this; simp [Instr.sliceBounds, a1.2.2 z rfl]
    | some y => simp [Instr.sliceBounds, a1.2.2 z rfl, a2.2.2 y rfl]
omit hE in
theorem two_bounds {fhi flo : Option AV} {len most : Nat} {g : Nat → Nat → (AV → R) → R} {v : AV} (hv : ∀ k, (optN fhi len most fun h => optN flo 0 h fun l => g h l k) = k v) :
    ∃ h l, optN fhi len most pn = pn h ∧ optN flo 0 h pn = pn l ∧ ∀ k, g h l k = k v := by
  obtain ⟨h, hh, h1⟩ := yl_optN fhi len most (g := fun n k => k n) (fun n => yl_pure n) _ _ (show (optN fhi len most fun h => optN flo 0 h fun l => g h l pv) = some (VM.mk v ⟨.e, 0, 0⟩) from hv pv)
  obtain ⟨l, hl, h2⟩ := yl_optN flo 0 h (g := fun n k => k n) (fun n => yl_pure n) _ _ h1
  refine ⟨h, l, hh pn, hl pn, fun k => ?_⟩
  have e1 := hv k
  have e2 := hh fun h => optN flo 0 h fun l => g h l k
  have e3 := hl fun l => g h l k
  exact (e2.trans e3).symm.trans e1
theorem step_slice_str {t : TypeId} {x : Operand} {p : Opd} {lo hi : Option Operand} {flo fhi : TM → Option AV} {s : List UInt8} {v : AV} (ho : o.op = .slice t x lo hi none) (ht : ty E t = some .string) (hx : opdC E nt x = some p)
    (hlo : optC E nt lo = some flo) (hhi : optC E nt hi = some fhi) (e : p.f tm = .str s) (hv : ∀ k, slcStr s (flo tm) (fhi tm) k = k v) : Step E P nt o tm m v m :=
  pure_step fun ρ a w hG htm hr => by
    have hp := (htm _ (by simp [ho, Op.operands]) _ hx)
    rw [e] at hp
    obtain ⟨h, l, b1, b2, h3⟩ := two_bounds (g := fun h l k => k (.str (takeL (Nat.sub h l) (dropL l s)))) hv
    have := pv_inj (show pv _ = some (VM.mk v ⟨.e, 0, 0⟩) from h3 pv); subst this
    rw [lenL_eq] at b1
    have hsz : (ByteArray.mk ⟨s⟩).size = s.length := rfl
    obtain ⟨hb, hlh, hhm⟩ := bounds_val (P := P) (w := w) (len := s.length) (cap := s.length) false b1 b2 (optC_ok hhi htm (by intro y e; simp [ho, Op.operands, e])) (optC_ok hlo htm (by intro y e; simp [ho, Op.operands, e])) (Nat.le_refl _)
    refine ⟨.string ((ByteArray.mk ⟨s⟩).extract l h), ?_, ?_⟩
    · simp [execOp, ho, Instr.sliceAt, Instr.slice, run_und hE w ht, vr_str hp, hsz, hb]
    · have : (ByteArray.mk ⟨s⟩).extract l h = ByteArray.mk ⟨(s.drop l).take (h - l)⟩ := ByteArray.extract_mk s l h
      rw [this, takeL_eq, dropL_eq]
      exact .str _
theorem step_slice_slc {t el : TypeId} {n : Nat} {x : Operand} {p : Opd} {lo hi : Option Operand} {flo fhi : TM → Option AV} {b o' len cap : Nat} {v : AV} (ho : o.op = .slice t x lo hi none) (ht : ty E t = some (.slice el)) (hn : sz E el = some n) (hx : opdC E nt x = some p)
    (hlo : optC E nt lo = some flo) (hhi : optC E nt hi = some fhi) (e : p.f tm = .slc b o' len cap) (hv : ∀ k, slcSlc m n b o' len cap (flo tm) (fhi tm) k = k v) : Step E P nt o tm m v m :=
  pure_step fun ρ a w hG htm hr => by
    have hp := (htm _ (by simp [ho, Op.operands]) _ hx)
    rw [e] at hp
    obtain ⟨k, cap', hk, hc, hpv⟩ := vr_slc hp
    obtain ⟨h, l, b1, b2, h3⟩ := two_bounds hv
    have hcc : cap ≤ cap' := by
      unfold CapR at hc
      split at hc
      · omega
      · exact hc.1
    obtain ⟨hb, hlh, hhm⟩ := bounds_val (P := P) (w := w) (len := len) (cap := cap') true b1 b2 (optC_ok hhi htm (by intro y e; simp [ho, Op.operands, e])) (optC_ok hlo htm (by intro y e; simp [ho, Op.operands, e])) hcc
    have hrun : (execOp a.eval o).run P w = .ok (.value (.slice (if cap' = l then some ⟨k.b, k.o + o', none⟩ else some ⟨k.b, k.o + o' + l * n, none⟩) (h - l) (cap' - l))) w := by
      simp only [execOp, ho, Instr.sliceAt, Instr.slice, Sem.run_bind, run_und hE w ht, Result.andThen_ok, hpv, Option.map_none, hb, sz_ok hE w hn, Sem.run_pure, Option.map_some, add_none]
    rcases br_some (show br (Nat.beq l 0) _ _ = some (VM.mk v ⟨.e, 0, 0⟩) from h3 pv) with ⟨h0, h4⟩ | ⟨h0, h4⟩
    · have h0 := nbt h0
      subst h0
      have := pv_inj h4; subst this
      refine ⟨_, hrun, ?_⟩
      have : (if cap' = 0 then some (⟨k.b, k.o + o', none⟩ : Addr) else some ⟨k.b, k.o + o' + 0 * n, none⟩) = some ⟨k.b, k.o + o', none⟩ := by split <;> simp
      rw [this]
      exact .slc hk hc
    · rcases br_some h4 with ⟨h1, h5⟩ | ⟨h1, h5⟩
      · have h1 := nblt h1
        have hne : cap' ≠ l := by omega
        rw [if_neg hne] at hrun
        have hval : v = .slc b (Nat.add o' (Nat.mul l n)) (Nat.sub h l) (Nat.sub cap l) ∧ ∀ es lim, k.ext = some (es, lim) → es = n := by
          rcases capKnown_val hE h5 hr hk with ⟨he, h6⟩ | ⟨es, lim, he, h6⟩
          · exact ⟨(pv_inj h6).symm, fun es lim h => by rw [he] at h; cases h⟩
          · obtain ⟨h7, h6⟩ := br_none h6
            refine ⟨(pv_inj h6).symm, fun es' lim' h => ?_⟩
            rw [he] at h; cases h
            exact nbt h7
        obtain ⟨rfl, hes⟩ := hval
        refine ⟨_, hrun, ?_⟩
        rw [show k.o + o' + l * n = k.o + (o' + l * n) by omega]
        refine VR.slc (o := Nat.add o' (Nat.mul l n)) (cap := Nat.sub cap l) hk ?_
        unfold CapR at hc ⊢
        split
        · rename_i hx'; rw [hx'] at hc; simp only at hc; subst hc; rfl
        · rename_i es lim hx'
          rw [hx'] at hc; simp only at hc
          have := hes _ _ hx'; subst this
          have e1 : (Nat.sub cap l) = cap - l := rfl
          rw [e1]
          refine ⟨by omega, fun hlt => ?_⟩
          have := hc.2 (by omega)
          have e2 : l * es + (cap' - l) * es = cap' * es := by rw [← Nat.add_mul]; congr 1; omega
          show k.o + (o' + l * es) + (cap' - l) * es ≤ lim
          omega
      · have h1 := nblf h1
        have hlc : l = cap := by omega
        rcases capKnown_val hE h5 hr hk with ⟨he, h6⟩ | ⟨_, _, _, h6⟩
        · have hc' : cap' = cap := by simpa [CapR, he] using hc
          have := pv_inj h6; subst this
          refine ⟨_, hrun, ?_⟩
          rw [if_pos (by omega)]
          refine VR.slc (o := o') hk ?_
          unfold CapR
          rw [he, hc']; rfl
        · cases h6
theorem step_slice_nil {t el : TypeId} {n : Nat} {x : Operand} {p : Opd} {lo hi : Option Operand} {flo fhi : TM → Option AV} {len cap : Nat} {v : AV} (ho : o.op = .slice t x lo hi none) (ht : ty E t = some (.slice el)) (hn : sz E el = some n) (hx : opdC E nt x = some p)
    (hlo : optC E nt lo = some flo) (hhi : optC E nt hi = some fhi) (e : p.f tm = .oth (.slice none len cap)) (hv : ∀ k, slcNil (flo tm) (fhi tm) len cap k = k v) : Step E P nt o tm m v m :=
  pure_step fun ρ a w hG htm hr => by
    have hp := (htm _ (by simp [ho, Op.operands]) _ hx)
    rw [e] at hp
    obtain ⟨hpv, _⟩ := vr_oth hp
    obtain ⟨h0, h1⟩ := br_none (show br (Nat.beq len 0) _ none = some (VM.mk v ⟨.e, 0, 0⟩) from hv pv)
    obtain ⟨h0', h11⟩ := br_none h1
    have h0 := nbt h0
    have h0' := nbt h0'
    subst h0 h0'
    obtain ⟨h, hh, h2⟩ := yl_optN (fhi tm) 0 0 (g := fun n k => k n) (fun n => yl_pure n) _ _ h11
    obtain ⟨l, hl, h4⟩ := yl_optN (flo tm) 0 0 (g := fun n k => k n) (fun n => yl_pure n) _ _ h2
    have := pv_inj h4; subst this
    have c1 := optN_val (P := P) (w := w) .sliceAcap (hh pn) (optC_ok hhi htm (by intro y e; simp [ho, Op.operands, e])) (Nat.le_refl 0)
    have e0 : h = 0 := by have := c1.1; omega
    subst e0
    obtain ⟨hb, hlh, hhm⟩ := bounds_val (P := P) (w := w) (len := 0) (cap := 0) true (hh pn) (hl pn) (optC_ok hhi htm (by intro y e; simp [ho, Op.operands, e])) (optC_ok hlo htm (by intro y e; simp [ho, Op.operands, e])) (Nat.le_refl _)
    have hl0 : l = 0 := by omega
    subst hl0
    refine ⟨.slice none 0 0, ?_, .oth _ (by intro cs e; cases e)⟩
    simp only [execOp, ho, Instr.sliceAt, Instr.slice, Sem.run_bind, run_und hE w ht, Result.andThen_ok, hpv, Option.map_none, hb, sz_ok hE w hn, Sem.run_pure, ite_self]
theorem step_slice_arr {t el : TypeId} {n len : Nat} {x : Operand} {p : Opd} {lo hi : Option Operand} {flo fhi : TM → Option AV} {b o' : Nat} {v : AV} (ho : o.op = .slice t x lo hi none) (ht : ty E t = some (.array len el)) (hn : sz E el = some n) (hx : opdC E nt x = some p)
    (hlo : optC E nt lo = some flo) (hhi : optC E nt hi = some fhi) (e : p.f tm = .ptr b o') (hv : ∀ k, slcArr n len b o' (flo tm) (fhi tm) k = k v) : Step E P nt o tm m v m :=
  pure_step fun ρ a w hG htm hr => by
    have hp := (htm _ (by simp [ho, Op.operands]) _ hx)
    rw [e] at hp
    obtain ⟨k, hk, hpv⟩ := vr_ptr hp
    obtain ⟨h, l, b1, b2, h3⟩ := two_bounds (g := fun h l k => k (.slc b (br (Nat.beq len l) o' (Nat.add o' (Nat.mul l n))) (Nat.sub h l) (Nat.sub len l))) hv
    have := pv_inj (show pv _ = some (VM.mk v ⟨.e, 0, 0⟩) from h3 pv); subst this
    obtain ⟨hb, hlh, hhm⟩ := bounds_val (P := P) (w := w) (len := len) (cap := len) false b1 b2 (optC_ok hhi htm (by intro y e; simp [ho, Op.operands, e])) (optC_ok hlo htm (by intro y e; simp [ho, Op.operands, e])) (Nat.le_refl _)
    refine ⟨.slice (some ⟨k.b, k.o + (br (Nat.beq len l) o' (Nat.add o' (Nat.mul l n))), none⟩) (h - l) (len - l), ?_, ?_⟩
    · simp only [execOp, ho, Instr.sliceAt, Sem.run_bind, run_und hE w ht, Result.andThen_ok, hpv, Instr.sureAddr, Sem.run_pure, Option.map_none, hb, sz_ok hE w hn, add_none]
      congr 4
      by_cases hl : len = l
      · rw [if_pos hl, hl, Nat.beq_refl]; rfl
      · rw [if_neg hl, nbf hl]
        show (⟨k.b, k.o + o' + l * n, none⟩ : Addr) = ⟨k.b, k.o + (o' + l * n), none⟩
        congr 1; omega
    · refine VR.slc (cap := Nat.sub len l) hk ?_
      unfold CapR
      split
      · rfl
      · exact ⟨Nat.le_refl _, fun h => absurd h (Nat.lt_irrefl _)⟩
end
end Go.Rx
