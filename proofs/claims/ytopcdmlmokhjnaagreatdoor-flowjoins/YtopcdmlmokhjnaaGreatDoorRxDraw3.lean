/-
  Regions that draw their order: the run in the order of the text, as it is seen from any other order.
-/
import Derived.Test.YtopcdmlmokhjnaaGreatDoorRxDraw2
set_option linter.unusedVariables false
set_option linter.unusedSimpArgs false
set_option linter.unusedSectionVars false
namespace Go.Rx

def Writer (D : Nat → Did) (j : Nat) : Prop := ∃ t c, D j = .heavy (some t) c
def Heavy (D : Nat → Did) (j : Nat) : Prop := ∃ w c, D j = .heavy w c
/-- the run in the order of the text -/
structure Canon (E : Env) (P : Program) (nt : Nat) (ops : Array Oper) (T : Nat → TM) (M : Nat → Mem) (D : Nat → Did) : Prop where
  static : staticOk ops = true
  op : ∀ i o, ops[i]? = some o → DrawOp E P nt ops o (T i) (M i) (T (i + 1)) (M (i + 1)) (D i)
  agree : ∀ i j a b, ops[i]? = some a → ops[j]? = some b → i < j → loose (Region.before ops).toList i j = true → quiet a.op = false → quiet b.op = false → agree (D i) (D j) = true
section
variable {E : Env} {P : Program} {nt : Nat} {ops : Array Oper} {T : Nat → TM} {M : Nat → Mem} {D : Nat → Did} (hC : Canon E P nt ops T M D)
theorem get_op {i : Nat} (h : i < ops.size) : ∃ o, ops[i]? = some o := ⟨ops[i], by simp [h]⟩
include hC
theorem heavy_loud {i : Nat} {o : Oper} (hi : ops[i]? = some o) (h : Heavy D i) : quiet o.op = false := by
  obtain ⟨w, c, e⟩ := h
  have := hC.op i o hi
  rw [e] at this
  cases this with | heavy w c v hput hq => exact hq
theorem heavy_loose {i j : Nat} (hi : i < ops.size) (hj : j < ops.size) (hlt : i < j) (hl : loose (Region.before ops).toList i j = true) (h1 : Heavy D i) (h2 : Heavy D j) : ¬ Writer D i ∧ ¬ Writer D j := by
  obtain ⟨a, ha⟩ := get_op hi
  obtain ⟨b, hb⟩ := get_op hj
  have hag := hC.agree i j a b ha hb hlt hl (heavy_loud hC ha h1) (heavy_loud hC hb h2)
  obtain ⟨w, c, e⟩ := h1
  obtain ⟨w', c', e'⟩ := h2
  rw [e, e'] at hag
  cases w with
  | some t => exact nomatch (show false = true from hag)
  | none =>
    cases w' with
    | some t => exact nomatch (show false = true from hag)
    | none => exact ⟨(by rintro ⟨t, c, h⟩; rw [e] at h; cases h), (by rintro ⟨t, c, h⟩; rw [e'] at h; cases h)⟩
theorem read_loose {i j b t : Nat} {c : Bool} (hi : i < ops.size) (hj : j < ops.size) (h1 : D i = .read b) (h2 : D j = .heavy (some t) c)
    (hl : (i < j ∧ loose (Region.before ops).toList i j = true) ∨ (j < i ∧ loose (Region.before ops).toList j i = true)) : c = false ∧ t ≠ b := by
  obtain ⟨x, hx⟩ := get_op hi
  obtain ⟨y, hy⟩ := get_op hj
  have hq1 : quiet x.op = false := by have := hC.op i x hx; rw [h1] at this; cases this with | read b v hput hm hq => exact hq
  have hq2 := heavy_loud hC hy ⟨_, _, h2⟩
  rcases hl with ⟨hlt, hl⟩ | ⟨hlt, hl⟩
  · have hag := hC.agree i j x y hx hy hlt hl hq1 hq2
    rw [h1, h2] at hag
    have hag : br c false (notB (Nat.beq t b)) = true := hag
    cases c with
    | true => cases hag
    | false => exact ⟨rfl, by intro e; subst e; rw [Nat.beq_refl] at hag; cases hag⟩
  · have hag := hC.agree j i y x hy hx hlt hl hq2 hq1
    rw [h1, h2] at hag
    have hag : br c false (notB (Nat.beq t b)) = true := hag
    cases c with
    | true => cases hag
    | false => exact ⟨rfl, by intro e; subst e; rw [Nat.beq_refl] at hag; cases hag⟩
theorem nx_step {i : Nat} (hi : i < ops.size) : (M i).nx ≤ (M (i + 1)).nx := by
  obtain ⟨o, ho⟩ := get_op hi
  have := hC.op i o ho
  generalize D i = d at this
  cases this with
  | none v hput hm => rw [hm.2]; exact Nat.le_refl _
  | read b v hput hm => rw [hm.2]; exact Nat.le_refl _
  | heavy w c v hput hq hnx => exact hnx
theorem nx_mono {p : Nat} : ∀ {q : Nat}, p ≤ q → q ≤ ops.size → (M p).nx ≤ (M q).nx := by
  intro q hpq
  induction hpq with
  | refl => intro _; exact Nat.le_refl _
  | step h ih => intro hq; exact Nat.le_trans (ih (by omega)) (nx_step hC (by omega))
theorem keep_step {j : Nat} (hj : j < ops.size) (hw : ¬ Writer D j) : ∀ id, id < (M j).nx → (M (j + 1)).hp.get id = (M j).hp.get id := by
  obtain ⟨o, ho⟩ := get_op hj
  have := hC.op j o ho
  intro id hid
  cases hd : D j with
  | none => rw [hd] at this; cases this with | none v hput hm => rw [hm.1]
  | read b => rw [hd] at this; cases this with | read b v hput hm => rw [hm.1]
  | heavy w c =>
    rw [hd] at this
    cases this with
    | heavy w c v hput hq hnx h0 h1 hg =>
      cases w with
      | none => exact h0 rfl id hid
      | some t => exact absurd ⟨t, c, hd⟩ hw
theorem keep_range {p : Nat} : ∀ {q : Nat}, p ≤ q → q ≤ ops.size → (∀ j, p ≤ j → j < q → ¬ Writer D j) → ∀ id, id < (M p).nx → (M q).hp.get id = (M p).hp.get id := by
  intro q hpq
  induction hpq with
  | refl => intro _ _ id _; rfl
  | @step q h ih =>
    intro hq hw id hid
    have hq' : q ≤ ops.size := by omega
    rw [keep_step hC (by omega) (hw q h (Nat.lt_succ_self q)) id (Nat.lt_of_lt_of_le hid (nx_mono hC h hq'))]
    exact ih hq' (fun j h1 h2 => hw j h1 (by omega)) id hid
theorem keep_block {p b : Nat} : ∀ {q : Nat}, p ≤ q → q ≤ ops.size → (∀ j t c, p ≤ j → j < q → D j = .heavy (some t) c → c = false ∧ t ≠ b) → b < (M p).nx → (M q).hp.get b = (M p).hp.get b := by
  intro q hpq
  induction hpq with
  | refl => intro _ _ _; rfl
  | @step q h ih =>
    intro hq hw hb
    have hq' : q ≤ ops.size := by omega
    have hbq := Nat.lt_of_lt_of_le hb (nx_mono hC h hq')
    rw [← ih hq' (fun j t c h1 h2 => hw j t c h1 (by omega)) hb]
    by_cases hwr : Writer D q
    · obtain ⟨t, c, e⟩ := hwr
      obtain ⟨hc, ht⟩ := hw q t c h (Nat.lt_succ_self q) e
      obtain ⟨o, ho⟩ := get_op (ops := ops) (i := q) (by omega)
      have := hC.op q o ho
      rw [e] at this
      cases this with | heavy w c v hput hq hnx h0 h1 hg => exact h1 t rfl hc b hbq (fun e => ht e.symm)
    · exact keep_step hC (by omega) hwr b hbq
/-- a slot that is not written -/
theorem slot_step {j s : Nat} (hj : j < ops.size) (hs : s < 512) (hn : ∀ o, ops[j]? = some o → o.dst ≠ some s) : getT (T (j + 1)) s = getT (T j) s := by
  obtain ⟨o, ho⟩ := get_op hj
  have := hC.op j o ho
  have hput : ∃ v, PutsTo nt o (T j) v (T (j + 1)) := by
    generalize D j = d at this
    cases this with
    | none v hput => exact ⟨v, hput⟩
    | read b v hput => exact ⟨v, hput⟩
    | heavy w c v hput => exact ⟨v, hput⟩
  obtain ⟨v, hput⟩ := hput
  rw [slot_of hput hs, if_neg (hn o ho)]
theorem slot_range {s : Nat} (hs : s < 512) {p : Nat} : ∀ {q : Nat}, p ≤ q → q ≤ ops.size → (∀ j o, p ≤ j → j < q → ops[j]? = some o → o.dst ≠ some s) → getT (T q) s = getT (T p) s := by
  intro q hpq
  induction hpq with
  | refl => intro _ _; rfl
  | @step q h ih =>
    intro hq hn
    rw [slot_step hC (by omega) hs (fun o ho => hn q o h (Nat.lt_succ_self q) ho)]
    exact ih (by omega) (fun j o h1 h2 => hn j o h1 (by omega))
/-- memory further on -/
theorem rel_advance {ρ : Ren} {w : World} {p q : Nat} (hr : Rel ρ (M p) w) (hpq : p ≤ q) (hq : q ≤ ops.size) (hw : ∀ j, p ≤ j → j < q → ¬ Writer D j) : Rel ρ (M q) w := by
  have hk := keep_range hC hpq hq hw
  refine ⟨fun i x l hx hl => ?_, fun i i' x x' l l' hx hx' hl hl' e => ?_, fun i l hl => ⟨(hr.lt i l hl).1, Nat.lt_of_lt_of_le (hr.lt i l hl).2 (nx_mono hC hpq hq)⟩⟩
  · rw [hk i (hr.lt i l hl).2] at hx; exact hr.blk i x l hx hl
  · rw [hk i (hr.lt i l hl).2] at hx
    rw [hk i' (hr.lt i' l' hl').2] at hx'
    exact hr.inj i i' x x' l l' hx hx' hl hl' e
/-- the least writer that is undone, from some place on -/
theorem next_writer (S : Nat → Prop) : ∀ (d p : Nat), p + d = ops.size → ∃ N, p ≤ N ∧ N ≤ ops.size ∧ (∀ j, p ≤ j → j < N → Writer D j → S j) ∧ (N < ops.size → Writer D N ∧ ¬ S N) := by
  intro d
  induction d with
  | zero => intro p hp; exact ⟨p, Nat.le_refl _, by omega, fun j h1 h2 => by omega, fun h => by omega⟩
  | succ d ih =>
    intro p hp
    by_cases h : Writer D p ∧ ¬ S p
    · exact ⟨p, Nat.le_refl _, by omega, fun j h1 h2 => by omega, fun _ => h⟩
    · obtain ⟨N, h1, h2, h3, h4⟩ := ih (p + 1) (by omega)
      refine ⟨N, by omega, h2, fun j hj1 hj2 hw => ?_, h4⟩
      by_cases e : j = p
      · subst e
        by_cases hs : S j
        · exact hs
        · exact absurd ⟨hw, hs⟩ h
      · exact h3 j (by omega) hj2 hw
end

/-! ### From any other order -/
/-- the elder part -/
def cut (ρ : Ren) (n : Nat) : Ren := fun i => if i < n then ρ i else none
theorem cut_some {ρ : Ren} {n i : Nat} {l : Loc} : cut ρ n i = some l ↔ i < n ∧ ρ i = some l := by
  unfold cut
  by_cases h : i < n
  · simp [h]
  · simp [h]
theorem cut_le {ρ : Ren} {n : Nat} : Ren.le (cut ρ n) ρ := fun i l h => (cut_some.1 h).2
theorem cut_mono {ρ ρ' : Ren} {n n' : Nat} (h : Ren.le ρ ρ') (hn : n ≤ n') : Ren.le (cut ρ n) (cut ρ' n') := fun i l hi => by
  have hi := cut_some.1 hi
  exact cut_some.2 ⟨by omega, h i l hi.2⟩
theorem cut_all {ρ : Ren} {n : Nat} (h : ∀ i l, ρ i = some l → i < n) : cut ρ n = ρ := by
  funext i
  unfold cut
  by_cases hi : i < n
  · rw [if_pos hi]
  · rw [if_neg hi]
    cases hr : ρ i with
    | none => rfl
    | some l => exact absurd (h i l hr) hi
mutual
theorem VR.back {ρ ρ' : Ren} (hle : Ren.le ρ ρ') {a : AV} {u v : Value} (h : VR ρ a u) (h' : VR ρ' a v) : VR ρ a v := match h, h' with
  | .int _ _, .int k n => .int k n
  | .bool _, .bool b => .bool b
  | .ptr h, .ptr h' => by have e := hle _ _ h; rw [h'] at e; cases e; exact .ptr h
  | .slc h _, .slc h' hc => by have e := hle _ _ h; rw [h'] at e; cases e; exact .slc h hc
  | .agg h _, .agg h' hc => .agg (LR.back hle h h') hc
  | .str _, .str s => .str s
  | .fn h, .fn h' => .fn (LR.back hle h h')
  | .yld h, .yld h' => by have e := hle _ _ h; rw [h'] at e; cases e; exact .yld h
  | .map h, .map h' => by have e := hle _ _ h; rw [h'] at e; cases e; exact .map h
  | .tup h, .tup h' => .tup (LR.back hle h h')
  | .oth _ _, .oth v h => .oth v h
theorem LR.back {ρ ρ' : Ren} (hle : Ren.le ρ ρ') {a : AV} {l l' : List Value} (h : LR ρ a l) (h' : LR ρ' a l') : LR ρ a l' := match h, h' with
  | .nl, .nl => .nl
  | .cons hv hl, .cons hv' hl' => .cons (VR.back hle hv hv') (LR.back hle hl hl')
end
theorem MR.back {ρ ρ' : Ren} (hle : Ren.le ρ ρ') {es : List (AV × AV)} {ms ms' : List MapEntry} (h : MR ρ es ms) (h' : MR ρ' es ms') : MR ρ es ms' := by
  induction h generalizing ms' with
  | nil => cases h'; exact .nil
  | cons hk hv _ ih =>
    cases h' with
    | cons hk' hv' h' => exact .cons (hk.back hle hk') (hv.back hle hv') (ih h')
theorem TmR.back {ρ ρ' : Ren} (hle : Ren.le ρ ρ') {nt : Nat} {tm : TM} {a a' : Array Value} (h : TmR ρ nt tm a) (h' : TmR ρ' nt tm a') : TmR ρ nt tm a' := ⟨h'.1, fun t h1 h2 => (h.2 t h1 h2).back hle (h'.2 t h1 h2)⟩
theorem BkR.back {ρ ρ' : Ren} (hle : Ren.le ρ ρ') {x : Bk} {l : Loc} {o o' : Option Obj} (h : BkR ρ x l o) (h' : BkR ρ' x l o') : BkR ρ x l o' := by
  cases x with
  | cells vs ext =>
    obtain ⟨⟨_, _, _, _, _, _, h3, _⟩, _⟩ := h
    obtain ⟨⟨c, e, fz, xs, h1', h2', h3', h4'⟩, h5'⟩ := h'
    exact ⟨⟨c, e, fz, xs, h1', h2', h3.back hle h3', h4'⟩, h5'⟩
  | map es =>
    obtain ⟨⟨_, _, _, h2⟩, _⟩ := h
    obtain ⟨⟨ms, clock, h1', h2'⟩, h3'⟩ := h'
    exact ⟨⟨ms, clock, h1', h2.back hle h2'⟩, h3'⟩
  | loop st p tm nt ps as bd d =>
    obtain ⟨_, _, ld, _, h2, h3⟩ := h
    obtain ⟨fn, tmps, ld', h1', h2', h3'⟩ := h'
    have e := hle _ _ h3
    rw [h3'] at e; cases e
    exact ⟨fn, tmps, ld, h1', h2.back hle h2', h3⟩
  | defd => exact h'
structure Inv (ops : Array Oper) (nt : Nat) (T : Nat → TM) (M : Nat → Mem) (D : Nat → Did) (S : Nat → Prop) (ρ0 : Ren) (w0 : World) (ds0 : List Deferred) (ρ : Ren) (a : Act) (w : World) : Prop where
  closed : Closed ops S
  lt : ∀ j, S j → j < ops.size
  bound : ∃ N, N ≤ ops.size ∧ (∀ j, j < N → Writer D j → S j) ∧ (N < ops.size → Writer D N ∧ ¬ S N) ∧ Rel ρ (M N) w ∧
    ∀ k id l x, k ≤ N → id < (M k).nx → ρ id = some l → (M N).hp.get id = some x → (∀ j t c, k ≤ j → j < N → D j = .heavy (some t) c → c = false ∧ t ≠ id) → BkR (cut ρ (M k).nx) x l w.heap[l.b]?
  own : ∀ id l, ρ id = some l → id < (M 0).nx ∨ ∃ j, S j ∧ (M j).nx ≤ id ∧ id < (M (j + 1)).nx
  size : a.tmps.size = nt
  slots : ∀ s, s < nt → s < 512 → ∃ q, q ≤ ops.size ∧ (q = 0 ∨ ∃ j o, q = j + 1 ∧ S j ∧ ops[j]? = some o ∧ o.dst = some s) ∧ (∀ j o, ops[j]? = some o → o.dst = some s → (j < q ↔ S j)) ∧
    VR (cut ρ (M q).nx) (getT (T q) s) (a.tmps.getD s undef)
  defers : a.defers = ds0
  le : Ren.le ρ0 ρ
  new : ∀ id l, ρ id = some l → ρ0 id = none → (M 0).nx ≤ id ∧ (w0.heap.size ≤ l.b ∨ ∃ j x k, (M 0).hp.get j = some x ∧ ρ0 j = some k ∧ k.b = l.b)
  dead : ∀ j, S j → ∀ id, id < (M 0).nx → (M j).hp.get id = none → (M (j + 1)).hp.get id = none
  pend : ∀ j, S j → ∀ id, id < (M 0).nx → ρ0 id = none → (M (j + 1)).hp.get id = (M j).hp.get id
  frame : ∀ b, b < w0.heap.size → (∀ i x l, (M 0).hp.get i = some x → ρ0 i = some l → l.b ≠ b) → w.heap[b]? = w0.heap[b]?
  wsize : w0.heap.size ≤ w.heap.size
  io : w.os = w0.os ∧ w.output = w0.output
section
variable {E : Env} {P : Program} {nt : Nat} {ops : Array Oper} {T : Nat → TM} {M : Nat → Mem} {D : Nat → Did} (hC : Canon E P nt ops T M D) {S : Nat → Prop} {ρ0 ρ : Ren} {w0 w : World} {ds0 : List Deferred} {a : Act}
include hC
theorem inv_start {a : Act} (hr : Rel ρ0 (M 0) w0) (ht : TmR ρ0 nt (T 0) a.tmps) (hw : w.heap = w0.heap) (hio : w.os = w0.os ∧ w.output = w0.output) : Inv ops nt T M D (fun _ => False) ρ0 w0 a.defers ρ0 a w := by
  obtain ⟨N, h1, h2, h3, h4⟩ := next_writer hC (fun _ => False) ops.size 0 (by omega)
  have hcut : ∀ k, k ≤ ops.size → cut ρ0 (M k).nx = ρ0 := fun k hk => cut_all fun i l h => Nat.lt_of_lt_of_le (hr.lt i l h).2 (nx_mono hC (Nat.zero_le _) hk)
  have hrel : Rel ρ0 (M N) w := rel_advance hC (hr.heap hw) h1 h2 fun j hj1 hj2 hw => h3 j hj1 hj2 hw
  refine ⟨fun j h => h.elim, fun j h => h.elim, ⟨N, h2, fun j hj hw => h3 j (Nat.zero_le _) hj hw, h4, hrel, fun k id l x hk _ hl hx _ => by rw [hcut k (by omega)]; exact hrel.blk id x l hx hl⟩, fun id l hl => .inl (hr.lt id l hl).2, ht.1,
    fun s hs1 hs2 => ⟨0, Nat.zero_le _, .inl rfl, fun j o _ _ => ⟨fun h => absurd h (Nat.not_lt_zero _), fun h => h.elim⟩, by rw [hcut 0 (Nat.zero_le _)]; exact ht.2 s hs1 hs2⟩, rfl, Ren.le_refl _, fun id l h h' => (by rw [h] at h'; cases h'), fun j h => h.elim, fun j h => h.elim, fun b _ _ => by rw [hw], by rw [hw]; exact Nat.le_refl _, hio⟩
theorem inv_end (hr : Rel ρ0 (M 0) w0) (hi : Inv ops nt T M D S ρ0 w0 ds0 ρ a w) (hall : ∀ j, j < ops.size → S j) : Post ρ0 (M 0) w0 ρ (M ops.size) w ∧ TmR ρ nt (T ops.size) a.tmps ∧ a.defers = ds0 := by
  obtain ⟨N, hN, h1, h2, hrel, _⟩ := hi.bound
  have hNn : N = ops.size := by
    rcases Nat.lt_or_ge N ops.size with h | h
    · exact absurd (hall N h) (h2 h).2
    · omega
  subst hNn
  have chain : ∀ (Pr : Nat → Prop), Pr 0 → (∀ j, j < ops.size → Pr j → Pr (j + 1)) → ∀ j, j ≤ ops.size → Pr j := by
    intro Pr h0 hs j
    induction j with
    | zero => intro _; exact h0
    | succ j ih => intro hj; exact hs j (by omega) (ih (by omega))
  refine ⟨⟨hi.le, hi.new, hrel, nx_mono hC (Nat.zero_le _) (Nat.le_refl _), fun id hid hn => ?_, fun id hid hd => ?_, hi.frame, hi.wsize, hi.io⟩, ⟨hi.size, fun s h1 h2 => ?_⟩, hi.defers⟩
  · exact chain (fun j => (M j).hp.get id = (M 0).hp.get id) rfl (fun j hj h => (hi.pend j (hall j hj) id hid hn).trans h) _ (Nat.le_refl _)
  · exact chain (fun j => (M j).hp.get id = none) hd (fun j hj h => hi.dead j (hall j hj) id hid h) _ (Nat.le_refl _)
  · obtain ⟨q, hq, _, hqs, hv⟩ := hi.slots s h1 h2
    have : getT (T ops.size) s = getT (T q) s := slot_range hC h2 hq (Nat.le_refl _) fun j o hj1 hj2 ho hd => by
      have := (hqs j o ho hd).2 (hall j hj2)
      omega
    rw [this]; exact hv.mono cut_le
end
end Go.Rx
