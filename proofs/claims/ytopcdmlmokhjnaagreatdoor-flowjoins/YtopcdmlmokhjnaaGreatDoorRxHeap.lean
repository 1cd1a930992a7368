/-
  What the executor does to its heap, and memory beside it.
-/
import Derived.Test.YtopcdmlmokhjnaaGreatDoorRxRel
namespace Go.Rx

/-! ### Reading -/
section
variable {ρ : Ren} {m : Mem} {w : World}
theorem Rel.cells (h : Rel ρ m w) {b : Nat} {vs : AV} {ext : Option Nat} {l : Loc} (hb : m.hp.get b = some (.cells vs ext)) (hl : ρ b = some l) :
    ∃ c e fz xs, w.heap[l.b]? = some (.cells c e fz) ∧ thawed c fz ∧ LR ρ vs xs ∧ (∀ v ∈ xs, v.oneCell' = true) ∧ (∀ i v, xs[i]? = some v → c[l.o + i]? = some v) ∧ (∀ es lim, l.ext = some (es, lim) → lim ≤ c.size) ∧
      ext = l.ext.map (·.1) := by
  obtain ⟨⟨c, e, fz, xs, h1, h2, h3, h4, h5, h6⟩, h7⟩ := h.blk _ _ _ hb hl
  exact ⟨c, e, fz, xs, h1, h2, h3, h4, h5, h6, h7⟩
theorem cell_of {c : Array Value} {e : TypeId} {fz : Nat × Nat} {B i : Nat} {v : Value} (h : w.heap[B]? = some (.cells c e fz)) (hi : c[i]? = some v) : w.cell? ⟨B, i, none⟩ = some v := by
  simp [World.cell?, h, hi]
theorem thawed_of {c : Array Value} {e : TypeId} {fz : Nat × Nat} {B i : Nat} {v : Value} (h : w.heap[B]? = some (.cells c e fz)) (ht : thawed c fz) (hi : c[i]? = some v) : w.frozen? ⟨B, i, none⟩ = false := by
  have hlt : i < c.size := by
    rcases Nat.lt_or_ge i c.size with h' | h'
    · exact h'
    · rw [Array.getElem?_eq_none h'] at hi; cases hi
  simp only [World.frozen?, h]
  exact ht i hlt
theorem add_none (b o n : Nat) : (Addr.mk b o none).add n = ⟨b, o + n, none⟩ := by
  unfold Addr.add; split <;> simp_all
/-- n cells, read -/
theorem rd_some (h : Rel ρ m w) {b o n : Nat} {l : Loc} {k : AV → R} {r : VM} (hl : ρ b = some l) (hr : rd m b o n k = some r) :
    ∃ cs xs, LR ρ cs xs ∧ xs.length = n ∧ (∀ v ∈ xs, v.oneCell' = true) ∧ (∀ j v, xs[j]? = some v → w.cell? ((Addr.mk l.b (l.o + o) none).add j) = some v) ∧ k cs = some r := by
  obtain ⟨x, hx, hr⟩ := orec_get hr
  cases x with
  | cells vs ext =>
    obtain ⟨c, e, fz, xs, h1, h2, h3, h4, h5, h6, h7⟩ := h.cells hx hl
    obtain ⟨b1, hb1, hn1, hr⟩ := dropA_some (show dropA o vs (fun l => takeA n l k) = some r from hr) h3
    obtain ⟨b2, hb2, hn2, hr⟩ := takeA_some hr hb1
    refine ⟨b2, _, hb2, by simp at hn2 ⊢; omega, fun v hv => h4 v (List.mem_of_mem_drop (List.mem_of_mem_take hv)), ?_, hr⟩
    intro j v hj
    rw [add_none]
    have hj' : xs[o + j]? = some v := by
      rw [List.getElem?_take] at hj
      split at hj
      · rw [List.getElem?_drop] at hj; exact hj
      · cases hj
    have := h5 _ _ hj'
    exact cell_of h1 (by rw [← this]; congr 1; omega)
  | _ => exact nomatch (show (none : R) = some r from hr)
/-- one cell, read -/
theorem rd1_some (h : Rel ρ m w) {b o : Nat} {l : Loc} {k : AV → R} {r : VM} (hl : ρ b = some l) (hr : rd1 m b o k = some r) :
    ∃ a v, VR ρ a v ∧ v.oneCell' = true ∧ w.cell? ⟨l.b, l.o + o, none⟩ = some v ∧ k a = some r := by
  obtain ⟨x, hx, hr⟩ := orec_get hr
  cases x with
  | cells vs ext =>
    obtain ⟨c, e, fz, xs, h1, h2, h3, h4, h5, h6, h7⟩ := h.cells hx hl
    obtain ⟨b1, hb1, hn1, hr⟩ := dropA_some (show dropA o vs (fun l => avCons l fun h _ => k h) = some r from hr) h3
    obtain ⟨a, t, rfl, hr⟩ := avCons_some hr
    obtain ⟨v, ms, he, hv, _⟩ := hb1.get rfl
    have hj : xs[o]? = some v := by
      have : (xs.drop o)[0]? = some v := by rw [he]; rfl
      rwa [List.getElem?_drop] at this
    exact ⟨a, v, hv, h4 v (List.mem_of_getElem? hj), cell_of h1 (h5 _ _ hj), hr⟩
  | _ => exact nomatch (show (none : R) = some r from hr)
end

/-! ### Memory's stores -/
/-- values over a row's cells, from a place on -/
def over (c : Array Value) (i : Nat) : List Value → Array Value
  | [] => c
  | v :: vs => over (c.setIfInBounds i v) (i + 1) vs
theorem size_over (vs : List Value) : ∀ (c : Array Value) (i : Nat), (over c i vs).size = c.size := by
  induction vs with
  | nil => intro c i; rfl
  | cons v vs ih => intro c i; show (over (c.setIfInBounds i v) (i + 1) vs).size = _; rw [ih]; simp
theorem get_over' (vs : List Value) : ∀ (c : Array Value) (i j : Nat), i + vs.length ≤ c.size → (over c i vs)[j]? = if i ≤ j ∧ j < i + vs.length then vs[j - i]? else c[j]? := by
  induction vs with
  | nil => intro c i j _; rw [if_neg (by intro h; simp at h; omega)]; rfl
  | cons v vs ih =>
    intro c i j h
    simp only [List.length_cons] at h
    show (over (c.setIfInBounds i v) (i + 1) vs)[j]? = _
    rw [ih _ _ _ (by simp; omega)]
    by_cases hj : i + 1 ≤ j ∧ j < i + 1 + vs.length
    · rw [if_pos hj, if_pos (by simp only [List.length_cons]; omega)]
      obtain ⟨d, rfl⟩ : ∃ d, j = i + 1 + d := ⟨j - (i + 1), by omega⟩
      rw [show i + 1 + d - (i + 1) = d by omega, show i + 1 + d - i = d + 1 by omega]; rfl
    · rw [if_neg hj]
      by_cases he : j = i
      · subst he
        rw [if_pos (by simp only [List.length_cons]; omega)]
        simp [show j < c.size by omega]
      · rw [if_neg (by simp only [List.length_cons]; omega), Array.getElem?_setIfInBounds, if_neg (by omega)]
theorem get_over (vs : List Value) (c : Array Value) (i j : Nat) (h : vs = [] ∨ i + vs.length ≤ c.size) : (over c i vs)[j]? = if i ≤ j ∧ j < i + vs.length then vs[j - i]? else c[j]? := by
  rcases h with rfl | h
  · rw [if_neg (by intro h; simp at h; omega)]; rfl
  · exact get_over' vs c i j h
/-- memory with an object turned -/
def World.putObj (w : World) (b : Nat) (o : Obj) : World := { w with heap := w.heap.setIfInBounds b o }
theorem setCell_cells (w : World) {B i : Nat} {c : Array Value} {e : TypeId} {fz : Nat × Nat} (v : Value) (h : w.heap[B]? = some (.cells c e fz)) :
    w.setCell ⟨B, i, none⟩ v = World.putObj w B (.cells (c.setIfInBounds i v) e fz) := by
  unfold World.setCell World.putObj
  congr 1
  apply Array.ext_getElem?
  intro j
  rw [Array.getElem?_modify, Array.getElem?_setIfInBounds]
  have hB : B < w.heap.size := by
    rcases Nat.lt_or_ge B w.heap.size with h' | h'
    · exact h'
    · rw [Array.getElem?_eq_none h'] at h; cases h
  by_cases hj : B = j
  · subst hj
    rw [if_pos rfl, if_pos rfl, if_pos hB, h]; rfl
  · simp [hj]
theorem putObj_get (w : World) (B : Nat) (o : Obj) (hB : B < w.heap.size) (j : Nat) : (World.putObj w B o).heap[j]? = if j = B then some o else w.heap[j]? := by
  unfold World.putObj
  rw [Array.getElem?_setIfInBounds]
  by_cases hj : B = j
  · subst hj; simp [hB]
  · rw [if_neg hj, if_neg (by omega)]
theorem putObj_putObj (w : World) (B : Nat) (o o' : Obj) : World.putObj (World.putObj w B o) B o' = World.putObj w B o' := by
  unfold World.putObj; simp
theorem lt_of_get {w : World} {B : Nat} {o : Obj} (h : w.heap[B]? = some o) : B < w.heap.size := by
  rcases Nat.lt_or_ge B w.heap.size with h' | h'
  · exact h'
  · rw [Array.getElem?_eq_none h'] at h; cases h
theorem run_storeCells_over (P : Program) (B o : Nat) (e : TypeId) (fz : Nat × Nat) : ∀ (vs : List Value) (i : Nat) (c : Array Value) (w : World), w.heap[B]? = some (.cells c e fz) → thawed c fz → (vs = [] ∨ o + i + vs.length ≤ c.size) →
    (∀ v ∈ vs, v.oneCell' = true) → (storeCells ⟨B, o, none⟩ vs i).run P w = .ok () (World.putObj w B (.cells (over c (o + i) vs) e fz)) := by
  intro vs
  induction vs with
  | nil =>
    intro i c w h _ _ _
    simp only [storeCells, over]
    have : World.putObj w B (.cells c e fz) = w := by
      unfold World.putObj
      have : w.heap.setIfInBounds B (.cells c e fz) = w.heap := by
        apply Array.ext_getElem?
        intro j
        rw [Array.getElem?_setIfInBounds]
        by_cases hj : B = j
        · subst hj; rw [if_pos rfl, if_pos (lt_of_get h), h]
        · simp [hj]
      rw [this]
    rw [this]; rfl
  | cons v vs ih =>
    intro i c w h ht hs hv
    have hs : o + i + (vs.length + 1) ≤ c.size := by simpa using hs
    have hlt : o + i < c.size := by omega
    have hc : w.cell? ⟨B, o + i, none⟩ = some c[o + i] := cell_of h (by simp [hlt])
    have hf : w.frozen? ⟨B, o + i, none⟩ = false := thawed_of h ht (v := c[o + i]) (by simp [hlt])
    simp only [storeCells, Sem.run_bind, add_none]
    rw [run_store P w _ v _ (hv v (by simp)), hc]
    simp only [hf, Bool.false_eq_true, if_false, Result.andThen_ok]
    rw [setCell_cells w v h]
    rw [ih (i + 1) (c.setIfInBounds (o + i) v) _ (by rw [putObj_get _ _ _ (lt_of_get h), if_pos rfl]) (by intro j hj; exact ht j (by simpa using hj)) (.inr (by simp; omega)) (fun x hx => hv x (by simp [hx]))]
    rw [putObj_putObj]
    rfl

/-! ### From state to state -/
section
variable {ρ : Ren} {m : Mem} {w w' : World}
def Ren.add (ρ : Ren) (i : Nat) (l : Loc) : Ren := fun j => if j = i then some l else ρ j
theorem Ren.le_add {ρ : Ren} {i : Nat} {l : Loc} (h : ρ i = none) : Ren.le ρ (ρ.add i l) := by
  intro j k hj
  unfold Ren.add
  by_cases e : j = i
  · subst e; rw [h] at hj; cases hj
  · rw [if_neg e]; exact hj
theorem Ren.add_same {ρ : Ren} {i : Nat} {l : Loc} : ρ.add i l i = some l := by simp [Ren.add]
theorem Rel.nx_none (h : Rel ρ m w) : ρ m.nx = none := by
  cases hc : ρ m.nx with
  | none => rfl
  | some l => exact absurd (h.lt _ _ hc).2 (Nat.lt_irrefl _)
/-- only the heap counts -/
theorem Rel.heap (h : Rel ρ m w) (e : w'.heap = w.heap) : Rel ρ m w' := ⟨fun i x l a b => by rw [e]; exact h.blk i x l a b, h.inj, fun i l a => by rw [e]; exact h.lt i l a⟩
theorem Post.heap {ρ' : Ren} {m' : Mem} {w1 : World} (h : Post ρ m w ρ' m' w1) (e : w'.heap = w1.heap) (hio : w'.os = w1.os ∧ w'.output = w1.output := by exact ⟨rfl, rfl⟩) : Post ρ m w ρ' m' w' :=
  ⟨h.le, h.new, h.rel.heap e, h.nx, h.pend, h.dead, fun b hb hf => by rw [e]; exact h.frame b hb hf, by rw [e]; exact h.size, ⟨hio.1.trans h.io.1, hio.2.trans h.io.2⟩⟩
theorem Rel.lo (h : Rel ρ m w) (lo : Nat) : Rel ρ ⟨m.hp, m.nx, lo⟩ w := ⟨h.blk, h.inj, h.lt⟩
theorem Post.lo {ρ' : Ren} {m' : Mem} (h : Post ρ m w ρ' m' w') (lo : Nat) : Post ρ m w ρ' ⟨m'.hp, m'.nx, lo⟩ w' := ⟨h.le, h.new, h.rel.lo lo, h.nx, h.pend, h.dead, h.frame, h.size, h.io⟩
/-- a new block -/
theorem post_new (h : Rel ρ m w) {o : Obj} {x : Bk} {ext : Option (Nat × Nat)} {lo : Nat} (hw : w'.heap = w.heap.push o) (hb : BkR (ρ.add m.nx ⟨w.heap.size, 0, ext⟩) x ⟨w.heap.size, 0, ext⟩ (some o)) (hio : w'.os = w.os ∧ w'.output = w.output := by exact ⟨rfl, rfl⟩) :
    Post ρ m w (ρ.add m.nx ⟨w.heap.size, 0, ext⟩) ⟨m.hp.set (some x) m.nx, Nat.succ m.nx, lo⟩ w' := by
  have hn := h.nx_none
  have hle := Ren.le_add (l := ⟨w.heap.size, 0, ext⟩) hn
  have hold : ∀ j, j < w.heap.size → w'.heap[j]? = w.heap[j]? := by
    intro j hj; rw [hw, Array.getElem?_push, if_neg (by omega)]
  have hget : ∀ i l, (ρ.add m.nx ⟨w.heap.size, 0, ext⟩) i = some l → (i = m.nx ∧ l = ⟨w.heap.size, 0, ext⟩) ∨ (i ≠ m.nx ∧ ρ i = some l) := by
    intro i l hi
    unfold Ren.add at hi
    by_cases e : i = m.nx
    · rw [if_pos e] at hi; cases hi; exact .inl ⟨e, rfl⟩
    · rw [if_neg e] at hi; exact .inr ⟨e, hi⟩
  refine ⟨hle, ?_, ⟨?_, ?_, ?_⟩, Nat.le_succ _, ?_, ?_, ?_, by rw [hw]; simp, hio⟩
  · intro i l hi hni
    rcases hget i l hi with ⟨rfl, rfl⟩ | ⟨_, hi⟩
    · exact ⟨Nat.le_refl _, .inl (Nat.le_refl _)⟩
    · rw [hni] at hi; cases hi
  · intro i y l hy hl
    rcases hget i l hl with ⟨rfl, rfl⟩ | ⟨hne, hl⟩
    · simp only [Tr.get_set_same] at hy
      cases hy
      rw [hw, Array.getElem?_push, if_pos rfl]
      exact hb
    · simp only [Tr.get_set_ne _ _ hne] at hy
      rw [hold _ (h.lt _ _ hl).1]
      exact (h.blk i y l hy hl).mono hle
  · intro i i' y y' l l' hy hy' hl hl' e
    rcases hget i l hl with ⟨rfl, rfl⟩ | ⟨hne, hl⟩
    · rcases hget i' l' hl' with ⟨rfl, rfl⟩ | ⟨hne', hl'⟩
      · rfl
      · have := (h.lt _ _ hl').1; simp only at e; omega
    · rcases hget i' l' hl' with ⟨rfl, rfl⟩ | ⟨hne', hl'⟩
      · have := (h.lt _ _ hl).1; simp only at e; omega
      · simp only [Tr.get_set_ne _ _ hne] at hy
        simp only [Tr.get_set_ne _ _ hne'] at hy'
        exact h.inj i i' y y' l l' hy hy' hl hl' e
  · intro i l hl
    rw [hw, Array.size_push]
    rcases hget i l hl with ⟨rfl, rfl⟩ | ⟨hne, hl⟩
    · exact ⟨Nat.lt_succ_self _, Nat.lt_succ_self _⟩
    · have := h.lt _ _ hl; exact ⟨by omega, Nat.lt_succ_of_lt this.2⟩
  · intro i hi _
    exact Tr.get_set_ne _ _ (by omega)
  · intro i hi hd
    simp only [Tr.get_set_ne _ _ (show i ≠ m.nx by omega)]; exact hd
  · intro b hb' _
    exact hold b hb'
/-- a block turned -/
theorem post_put (h : Rel ρ m w) {i : Nat} {x x' : Bk} {l : Loc} {o : Obj} {lo : Nat} (hx : m.hp.get i = some x) (hl : ρ i = some l) (hs : w'.heap.size = w.heap.size)
    (hw : ∀ j, w'.heap[j]? = if j = l.b then some o else w.heap[j]?) (hb : BkR ρ x' l (some o)) (hio : w'.os = w.os ∧ w'.output = w.output := by exact ⟨rfl, rfl⟩) : Post ρ m w ρ ⟨m.hp.set (some x') i, m.nx, lo⟩ w' := by
  refine ⟨Ren.le_refl _, fun j k hj hn => (by rw [hj] at hn; cases hn), ⟨?_, ?_, ?_⟩, Nat.le_refl _, ?_, ?_, ?_, by rw [hs]; exact Nat.le_refl _, hio⟩
  · intro j y k hy hk
    by_cases e : j = i
    · subst e
      simp only [Tr.get_set_same] at hy
      cases hy
      rw [hl] at hk; cases hk
      rw [hw, if_pos rfl]; exact hb
    · simp only [Tr.get_set_ne _ _ e] at hy
      rw [hw, if_neg]
      · exact h.blk j y k hy hk
      · intro eb; exact e (h.inj j i y x k l hy hx hk hl eb)
  · intro j j' y y' k k' hy hy' hk hk' e
    have a : ∃ z, m.hp.get j = some z := by
      by_cases ej : j = i
      · exact ⟨x, ej ▸ hx⟩
      · simp only [Tr.get_set_ne _ _ ej] at hy; exact ⟨_, hy⟩
    have b : ∃ z, m.hp.get j' = some z := by
      by_cases ej : j' = i
      · exact ⟨x, ej ▸ hx⟩
      · simp only [Tr.get_set_ne _ _ ej] at hy'; exact ⟨_, hy'⟩
    obtain ⟨z, hz⟩ := a
    obtain ⟨z', hz'⟩ := b
    exact h.inj j j' z z' k k' hz hz' hk hk' e
  · intro j k hk
    rw [hs]; exact h.lt j k hk
  · intro j hj hn
    exact Tr.get_set_ne _ _ (by intro e; rw [e, hl] at hn; cases hn)
  · intro j hj hd
    simp only [Tr.get_set_ne _ _ (show j ≠ i by intro e; rw [e, hx] at hd; cases hd)]; exact hd
  · intro b hb' hf
    rw [hw, if_neg]
    intro e; exact hf i x l hx hl e.symm
/-- a block given up -/
theorem post_kill (h : Rel ρ m w) {i : Nat} {x : Bk} {l : Loc} {lo : Nat} (hx : m.hp.get i = some x) (hl : ρ i = some l) : Post ρ m w ρ ⟨m.hp.set none i, m.nx, lo⟩ w := by
  refine ⟨Ren.le_refl _, fun j k hj hn => (by rw [hj] at hn; cases hn), ⟨?_, ?_, h.lt⟩, Nat.le_refl _, ?_, ?_, fun _ _ _ => rfl, Nat.le_refl _, ⟨rfl, rfl⟩⟩
  · intro j y k hy hk
    by_cases e : j = i
    · subst e; simp only [Tr.get_set_same] at hy; cases hy
    · simp only [Tr.get_set_ne _ _ e] at hy; exact h.blk j y k hy hk
  · intro j j' y y' k k' hy hy' hk hk' e
    by_cases ej : j = i
    · rw [ej] at hy; simp only [Tr.get_set_same] at hy; cases hy
    · by_cases ej' : j' = i
      · rw [ej'] at hy'; simp only [Tr.get_set_same] at hy'; cases hy'
      · simp only [Tr.get_set_ne _ _ ej] at hy
        simp only [Tr.get_set_ne _ _ ej'] at hy'
        exact h.inj j j' y y' k k' hy hy' hk hk' e
  · intro j hj hn
    exact Tr.get_set_ne _ _ (by intro e; rw [e, hl] at hn; cases hn)
  · intro j hj hd
    simp only [Tr.get_set_ne _ _ (show j ≠ i by intro e; rw [e, hx] at hd; cases hd)]; exact hd
/-- a block given up, and what lay in it taken on as a new one -/
theorem post_reuse (h : Rel ρ m w) {i : Nat} {x x' : Bk} {l : Loc} {o : Obj} {off : Nat} {ext : Option (Nat × Nat)} {lo : Nat} (hx : m.hp.get i = some x) (hl : ρ i = some l) (hs : w'.heap.size = w.heap.size)
    (hw : ∀ j, w'.heap[j]? = if j = l.b then some o else w.heap[j]?) (hb : BkR (ρ.add m.nx ⟨l.b, off, ext⟩) x' ⟨l.b, off, ext⟩ (some o)) (hio : w'.os = w.os ∧ w'.output = w.output := by exact ⟨rfl, rfl⟩) :
    Post ρ m w (ρ.add m.nx ⟨l.b, off, ext⟩) ⟨(m.hp.set none i).set (some x') m.nx, Nat.succ m.nx, lo⟩ w' := by
  have hn := h.nx_none
  have hle := Ren.le_add (l := ⟨l.b, off, ext⟩) hn
  have hin : i ≠ m.nx := Nat.ne_of_lt (h.lt _ _ hl).2
  have hget : ∀ j k, (ρ.add m.nx ⟨l.b, off, ext⟩) j = some k → (j = m.nx ∧ k = ⟨l.b, off, ext⟩) ∨ (j ≠ m.nx ∧ ρ j = some k) := by
    intro j k hj
    unfold Ren.add at hj
    by_cases e : j = m.nx
    · rw [if_pos e] at hj; cases hj; exact .inl ⟨e, rfl⟩
    · rw [if_neg e] at hj; exact .inr ⟨e, hj⟩
  have hlive : ∀ j y, ((m.hp.set none i).set (some x') m.nx).get j = some y → j ≠ m.nx → j ≠ i ∧ m.hp.get j = some y := by
    intro j y hy hne
    rw [Tr.get_set_ne _ _ hne] at hy
    by_cases e : j = i
    · rw [e, Tr.get_set_same] at hy; cases hy
    · rw [Tr.get_set_ne _ _ e] at hy; exact ⟨e, hy⟩
  refine ⟨hle, ?_, ⟨?_, ?_, ?_⟩, Nat.le_succ _, ?_, ?_, ?_, by rw [hs]; exact Nat.le_refl _, hio⟩
  · intro j k hj hnj
    rcases hget j k hj with ⟨rfl, rfl⟩ | ⟨_, hj⟩
    · exact ⟨Nat.le_refl _, .inr ⟨i, x, l, hx, hl, rfl⟩⟩
    · rw [hnj] at hj; cases hj
  · intro j y k hy hk
    rcases hget j k hk with ⟨rfl, rfl⟩ | ⟨hne, hk⟩
    · simp only [Tr.get_set_same] at hy
      cases hy
      rw [hw, if_pos rfl]; exact hb
    · obtain ⟨hji, hy⟩ := hlive j y hy hne
      rw [hw, if_neg]
      · exact (h.blk j y k hy hk).mono hle
      · intro eb; exact hji (h.inj j i y x k l hy hx hk hl eb)
  · intro j j' y y' k k' hy hy' hk hk' e
    rcases hget j k hk with ⟨rfl, rfl⟩ | ⟨hne, hk⟩
    · rcases hget j' k' hk' with ⟨rfl, rfl⟩ | ⟨hne', hk'⟩
      · rfl
      · obtain ⟨hji, hy'⟩ := hlive j' y' hy' hne'
        exact absurd (h.inj j' i y' x k' l hy' hx hk' hl e.symm) hji
    · obtain ⟨hji, hy⟩ := hlive j y hy hne
      rcases hget j' k' hk' with ⟨rfl, rfl⟩ | ⟨hne', hk'⟩
      · exact absurd (h.inj j i y x k l hy hx hk hl e) hji
      · obtain ⟨hji', hy'⟩ := hlive j' y' hy' hne'
        exact h.inj j j' y y' k k' hy hy' hk hk' e
  · intro j k hk
    rw [hs]
    rcases hget j k hk with ⟨rfl, rfl⟩ | ⟨hne, hk⟩
    · exact ⟨(h.lt _ _ hl).1, Nat.lt_succ_self _⟩
    · exact ⟨(h.lt _ _ hk).1, Nat.lt_succ_of_lt (h.lt _ _ hk).2⟩
  · intro j hj hnj
    simp only
    rw [Tr.get_set_ne _ _ (show j ≠ m.nx by omega), Tr.get_set_ne]
    intro e; rw [e, hl] at hnj; cases hnj
  · intro j hj hd
    simp only
    rw [Tr.get_set_ne _ _ (show j ≠ m.nx by omega), Tr.get_set_ne]
    · exact hd
    · intro e; rw [e, hx] at hd; cases hd
  · intro b hb' hf
    rw [hw, if_neg]
    intro e; exact hf i x l hx hl e.symm

/-! ### The executor's own moves -/
theorem setLo_some {b : Nat} {hp : Tr Bk} {k : Mem → R} {r : VM} (h : setLo m b hp k = some r) : ∃ lo, k ⟨hp, m.nx, lo⟩ = some r ∧ lo ≤ b ∧ lo ≤ m.lo ∧ (lo = b ∨ lo = m.lo) := by
  rcases br_some h with ⟨hb, h⟩ | ⟨hb, h⟩
  · exact ⟨m.lo, h, nble hb, Nat.le_refl _, .inr rfl⟩
  · exact ⟨b, h, Nat.le_refl _, Nat.le_of_lt (nbef hb), .inl rfl⟩
/-- what is written -/
theorem wr_some (h : Rel ρ m w) {b o : Nat} {xs : AV} {l : Loc} {k : Mem → R} {r : VM} {ms : List Value} (hl : ρ b = some l) (hm : LR ρ xs ms) (hc : ∀ v ∈ ms, v.oneCell' = true) (hr : wr m b o xs k = some r) :
    ∃ m' w', k m' = some r ∧ Post ρ m w ρ m' w' ∧ (∀ P, (storeCells ⟨l.b, l.o + o, none⟩ ms).run P w = .ok () w') ∧ (∀ j, j ≠ b → m'.hp.get j = m.hp.get j) ∧ m'.nx = m.nx ∧ m'.lo ≤ b ∧ (m'.lo = b ∨ m'.lo = m.lo) := by
  obtain ⟨x, hx, hr⟩ := orec_get hr
  cases x with
  | cells vs ext =>
    obtain ⟨c, e, fz, ys, h1, h2, h3, h4, h5, h6, h7⟩ := h.cells hx hl
    obtain ⟨vs', hvs, hlen, hr⟩ := spliceA_some (show spliceA xs o vs (fun vs' => setLo m b (m.hp.set (some (.cells vs' ext)) b) k) = some r from hr) hm h3
    obtain ⟨lo, hr, hlo, _, hlo2⟩ := setLo_some hr
    have hsz : ms = [] ∨ l.o + o + ms.length ≤ c.size := by
      by_cases h0 : ms.length = 0
      · exact .inl (List.length_eq_zero_iff.1 h0)
      · refine .inr ?_
        have hlt : o + ms.length - 1 < ys.length := by omega
        have := h5 (o + ms.length - 1) _ (List.getElem?_eq_getElem hlt)
        have hlt2 : l.o + (o + ms.length - 1) < c.size := by
          rcases Nat.lt_or_ge (l.o + (o + ms.length - 1)) c.size with h' | h'
          · exact h'
          · rw [Array.getElem?_eq_none h'] at this; cases this
        omega
    refine ⟨_, World.putObj w l.b (.cells (over c (l.o + o) ms) e fz), hr, ?_, ?_, ?_, rfl, hlo, hlo2⟩
    · refine post_put h hx hl (by simp [World.putObj]) (fun j => putObj_get _ _ _ (lt_of_get h1) _) ⟨⟨_, _, _, _, rfl, ?_, hvs, ?_, ?_, ?_⟩, h7⟩
      · intro i hi; rw [size_over] at hi; exact h2 i hi
      · intro v hv
        rcases List.mem_append.1 hv with hv | hv
        · rcases List.mem_append.1 hv with hv | hv
          · exact h4 v (List.mem_of_mem_take hv)
          · exact hc v hv
        · exact h4 v (List.mem_of_mem_drop hv)
      · intro i v hi
        rw [get_over _ _ _ _ hsz]
        by_cases ha : i < o
        · rw [if_neg (by omega)]
          rw [List.append_assoc, List.getElem?_append_left (by simp; omega), List.getElem?_take, if_pos ha] at hi
          exact h5 _ _ hi
        · by_cases hb : i < o + ms.length
          · rw [if_pos (by omega)]
            rw [List.append_assoc, List.getElem?_append_right (by simp; omega), List.getElem?_append_left (by simp; omega)] at hi
            rw [← hi]; congr 1; simp; omega
          · rw [if_neg (by omega)]
            rw [List.getElem?_append_right (by simp; omega), List.getElem?_drop] at hi
            have := h5 _ _ hi
            rw [← this]; congr 1; simp; omega
      · intro es lim he; rw [size_over]; exact h6 es lim he
    · intro P
      have := run_storeCells_over P l.b (l.o + o) e fz ms 0 c w h1 h2 (by simpa [Nat.add_assoc] using hsz) hc
      simpa using this
    · intro j hj; exact Tr.get_set_ne _ _ hj
  | _ => exact nomatch (show (none : R) = some r from hr)
end
end Go.Rx
