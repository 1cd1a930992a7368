/-
  Regions that draw their order: operations that do more than look at memory; the whole region.
-/
import Derived.Test.YtopcdmlmokhjnaaGreatDoorRxDraw5
import Derived.Test.YtopcdmlmokhjnaaGreatDoorRxFn
set_option linter.unusedVariables false
set_option linter.unusedSimpArgs false
set_option linter.unusedSectionVars false
namespace Go.Rx

section
variable {E : Env} {P : Program} {nt : Nat} {ops : Array Oper} {T : Nat → TM} {M : Nat → Mem} {D : Nat → Did} (hC : Canon E P nt ops T M D) {S : Nat → Prop} {ρ0 ρ : Ren} {w0 w : World} {ds0 : List Deferred} {a : Act}
  {i : Nat} {o : Oper} (hi : ops[i]? = some o) (hni : ¬ S i) (hrd : ∀ e ∈ o.after, Region.binds .any e = true → S e.on)
include hC hi hni
theorem own_gap (hI : Inv ops nt T M D S ρ0 w0 ds0 ρ a w) {id : Nat} {l : Loc} (h : ρ id = some l) : id < (M i).nx ∨ (M (i + 1)).nx ≤ id := by
  have hlt : i < ops.size := (Array.getElem?_eq_some_iff.1 hi).1
  rcases hI.own id l h with h | ⟨j, hS, h1, h2⟩
  · exact .inl (Nat.lt_of_lt_of_le h (nx_mono hC (Nat.zero_le i) (Nat.le_of_lt hlt)))
  · have hjs := hI.lt j hS
    rcases Nat.lt_or_ge j i with h | h
    · exact .inl (Nat.lt_of_lt_of_le h2 (nx_mono hC h (Nat.le_of_lt hlt)))
    · by_cases e : i = j
      · subst e; exact absurd hS hni
      · exact .inr (Nat.le_trans (nx_mono hC (by omega) (by omega)) h1)
include hrd
/-- an operation that looks at much of memory, or makes new blocks, and turns no elder one -/
theorem step_heavy (hr0 : Rel ρ0 (M 0) w0) (hG : Glob E ρ0) (hI : Inv ops nt T M D S ρ0 w0 ds0 ρ a w) {c : Bool} {v : AV} (hd : D i = .heavy none c) (hput : PutsTo nt o (T i) v (T (i + 1))) (hg : OpGV E P nt ops o (T i) (M i) v (M (i + 1)))
    (rd : Option Nat) (n : Nat) (K : Act → World → Prop) (Q : Exit → Act → World → Prop) (hK : ∀ ρ' a' w', Inv ops nt T M D (fun j => S j ∨ j = i) ρ0 w0 ds0 ρ' a' w' → K a' w') :
    if Region.wanted o (yielded ops a.tmps) then o.wpIn (fence rd) n P a w K Q else (∀ f, o.about P w a.eval = some f → (fence rd).fn f) ∧ K (a.put o.dst undef) w := by
  have hlt : i < ops.size := (Array.getElem?_eq_some_iff.1 hi).1
  have h0i := nx_mono hC (Nat.zero_le i) (Nat.le_of_lt hlt)
  have hii := nx_step hC hlt
  obtain ⟨N, hNs, h1, h2, hr, hbk⟩ := hI.bound
  have hnot : ¬ Writer D i := by rintro ⟨t, c, h⟩; rw [hd] at h; cases h
  have hh : Heavy D i := ⟨_, _, hd⟩
  have hiN : i < N := by
    have := heavy_front hC hi hni hrd hI.closed h2 hh
    rcases Nat.lt_or_ge i N with h | h
    · exact h
    · have e : i = N := by omega
      subst e
      exact absurd (h2 hlt).1 hnot
  have hnw := no_writer hC hi hni hrd hI.closed hNs h1 hh hnot
  have hkeep := keep_range hC (Nat.le_of_lt hiN) hNs hnw
  have hkeep1 := keep_range hC hiN hNs fun j h3 h4 => hnw j (by omega) h4
  have hstep := keep_step hC hlt hnot
  have hNn := nx_mono hC hiN hNs
  have hk : Rel (cut ρ (M i).nx) (M i) w := by
    refine ⟨fun j x l hx hl => ?_, fun j j' x x' l l' hx hx' hl hl' e => ?_, fun j l h => ⟨(hr.lt j l (cut_some.1 h).2).1, (cut_some.1 h).1⟩⟩
    · have hl := cut_some.1 hl
      rw [← hkeep j hl.1] at hx
      exact hbk i j l x (Nat.le_of_lt hiN) hl.1 hl.2 hx fun j t c h3 h4 h5 => absurd ⟨t, c, h5⟩ (hnw j h3 h4)
    · have hl := cut_some.1 hl
      have hl' := cut_some.1 hl'
      rw [← hkeep j hl.1] at hx
      rw [← hkeep j' hl'.1] at hx'
      exact hr.inj j j' x x' l l' hx hx' hl.2 hl'.2 e
  refine hg rd n _ a w (glob_cut hr0 hG hI.le h0i) (reads_ok hC hi hni hrd hI) hk K Q fun ρ1 v' w' hp hv => ?_
  have hnews := news_step hC hr0 hI hp h0i fun id hid hdd => by
    have := dead_at hC hI N hNs h1 id hid hdd
    rw [← hkeep id (Nat.lt_of_lt_of_le hid h0i)]; exact this
  let ρ' : Ren := fun id => if id < (M (i + 1)).nx then ρ1 id else ρ id
  have hρlt : ∀ {id : Nat}, id < (M (i + 1)).nx → ρ' id = ρ1 id := fun h => if_pos h
  have hρge : ∀ {id : Nat}, (M (i + 1)).nx ≤ id → ρ' id = ρ id := fun h => if_neg (by omega)
  have hle : Ren.le ρ ρ' := by
    intro id l h
    rcases own_gap hC hi hni hI h with h3 | h3
    · rw [hρlt (by omega)]; exact hp.le _ _ (cut_some.2 ⟨h3, h⟩)
    · rw [hρge h3]; exact h
  have hle1 : Ren.le ρ1 ρ' := fun id l h => by rw [hρlt (hp.rel.lt _ _ h).2]; exact h
  -- what is in it: elder, or new
  have split : ∀ {id : Nat} {l : Loc}, ρ' id = some l → ρ id = some l ∨ ((M i).nx ≤ id ∧ id < (M (i + 1)).nx ∧ ρ1 id = some l ∧ cut ρ (M i).nx id = none) := by
    intro id l h
    rcases Nat.lt_or_ge id (M (i + 1)).nx with h3 | h3
    · rw [hρlt h3] at h
      cases hc : cut ρ (M i).nx id with
      | some l' => have := hp.le _ _ hc; rw [this] at h; cases h; exact .inl (cut_some.1 hc).2
      | none => exact .inr ⟨(hp.new _ _ h hc).1, h3, h, rfl⟩
    · rw [hρge h3] at h; exact .inl h
  have hbnd : ∀ k id l x, k ≤ N → id < (M k).nx → ρ' id = some l → (M N).hp.get id = some x → (∀ j t c, k ≤ j → j < N → D j = .heavy (some t) c → c = false ∧ t ≠ id) → BkR (cut ρ' (M k).nx) x l w'.heap[l.b]? := by
    intro k id l x hkN hid hl hx hcond
    rcases split hl with h | ⟨h3, h4, h5, _⟩
    · have old := (hbk k id l x hkN hid h hx hcond).mono (cut_mono hle (Nat.le_refl _))
      rcases own_gap hC hi hni hI h with h3 | h3
      · have hc := hp.le _ _ (cut_some.2 ⟨h3, h⟩)
        have hx1 : (M (i + 1)).hp.get id = some x := by rw [hstep id h3, ← hkeep id h3]; exact hx
        exact old.back cut_le ((hp.rel.blk id x l hx1 hc).mono hle1)
      · rw [hp.frame l.b (hr.lt id l h).1 ?_]
        · exact old
        · intro j x' l' hx' hl' he
          have hl' := cut_some.1 hl'
          rw [← hkeep j hl'.1] at hx'
          have := hr.inj id j x x' l l' hx hx' h hl'.2 he.symm
          omega
    · have hik : i + 1 ≤ k := by
        rcases Nat.lt_or_ge i k with h | h
        · exact h
        · have := nx_mono hC h (Nat.le_of_lt hlt); omega
      have hx1 : (M (i + 1)).hp.get id = some x := by rw [← hkeep1 id h4]; exact hx
      refine (hp.rel.blk id x l hx1 h5).mono fun j l h => cut_some.2 ⟨Nat.lt_of_lt_of_le (hp.rel.lt _ _ h).2 (nx_mono hC hik (by omega)), hle1 _ _ h⟩
  have hltN : ∀ id l, ρ' id = some l → l.b < w'.heap.size ∧ id < (M N).nx := by
    intro id l h
    rcases split h with h | ⟨_, h4, h5, _⟩
    · exact ⟨Nat.lt_of_lt_of_le (hr.lt _ _ h).1 hp.size, (hr.lt _ _ h).2⟩
    · exact ⟨(hp.rel.lt _ _ h5).1, Nat.lt_of_lt_of_le h4 hNn⟩
  -- a new one lies at no elder one's place
  have apart : ∀ {id id' : Nat} {l l' : Loc} {x x' : Bk}, (M N).hp.get id = some x → ρ id = some l → (M N).hp.get id' = some x' → (M i).nx ≤ id' → id' < (M (i + 1)).nx → ρ1 id' = some l' → cut ρ (M i).nx id' = none → l.b ≠ l'.b := by
    intro id id' l l' x x' hx hl hx' h3 h4 h5 h6 e
    rcases own_gap hC hi hni hI hl with h7 | h7
    · have h8 := hp.le _ _ (cut_some.2 ⟨h7, hl⟩)
      have hx1 : (M (i + 1)).hp.get id = some x := by rw [← hkeep1 id (show id < (M (i + 1)).nx by omega)]; exact hx
      have hx1' : (M (i + 1)).hp.get id' = some x' := by rw [← hkeep1 id' h4]; exact hx'
      have := hp.rel.inj id id' x x' l l' hx1 hx1' h8 h5 e
      omega
    · rcases (hp.new _ _ h5 h6).2 with h8 | ⟨j, y, k, hy, hk', hb⟩
      · have := (hr.lt _ _ hl).1; omega
      · have hk' := cut_some.1 hk'
        rw [← hkeep j hk'.1] at hy
        have := hr.inj id j x y l k hx hy hl hk'.2 (e.trans hb.symm)
        omega
  have hrel : Rel ρ' (M N) w' := by
    refine ⟨fun id x l hx hl => (hbnd N id l x (Nat.le_refl _) (hltN id l hl).2 hl hx fun j t c h3 h4 => by omega).mono cut_le, fun id id' x x' l l' hx hx' hl hl' e => ?_, hltN⟩
    rcases split hl with h | ⟨h3, h4, h5, h6⟩
    · rcases split hl' with h' | ⟨h3, h4, h5, h6⟩
      · exact hr.inj id id' x x' l l' hx hx' h h' e
      · exact absurd e (apart hx h hx' h3 h4 h5 h6)
    · rcases split hl' with h' | ⟨h3', h4', h5', h6'⟩
      · exact absurd e.symm (apart hx' h' hx h3 h4 h5 h6)
      · have hx1 : (M (i + 1)).hp.get id = some x := by rw [← hkeep1 id h4]; exact hx
        have hx1' : (M (i + 1)).hp.get id' = some x' := by rw [← hkeep1 id' h4']; exact hx'
        exact hp.rel.inj id id' x x' l l' hx1 hx1' h5 h5' e
  have hsl := slots_step hC hi hni hrd hI hle hput (v' := v') (hv.mono fun j l h => cut_some.2 ⟨(hp.rel.lt _ _ h).2, hle1 _ _ h⟩)
  refine hK ρ' _ w' ⟨(closed_add hI.closed hi hrd).1, fun j hj => ?_, ⟨N, hNs, fun j hj hw => .inl (h1 j hj hw), fun h => ⟨(h2 h).1, fun h' => ?_⟩, hrel, hbnd⟩, fun id l hl => ?_, hsl.1, hsl.2, ?_, Ren.le_trans hI.le hle, fun id l hl h0 => ?_,
    fun j hj id hid hdd => ?_, fun j hj id hid h0 => ?_, hnews.2.1, hnews.2.2.1, hnews.2.2.2⟩
  · rcases hj with hj | rfl
    · exact hI.lt j hj
    · exact hlt
  · rcases h' with h' | rfl
    · exact (h2 h).2 h'
    · exact hnot (h2 h).1
  · rcases split hl with h | ⟨h3, h4, _⟩
    · rcases hI.own id l h with h | ⟨j, h3, h4⟩
      · exact .inl h
      · exact .inr ⟨j, .inl h3, h4⟩
    · exact .inr ⟨i, .inr rfl, h3, h4⟩
  · have : (a.put o.dst v').defers = a.defers := by unfold Act.put; cases o.dst <;> rfl
    rw [this]; exact hI.defers
  · rcases split hl with h | ⟨_, _, h5, _⟩
    · exact hI.new id l h h0
    · exact hnews.1 id l h5 h0
  · rcases hj with hj | rfl
    · exact hI.dead j hj id hid hdd
    · rw [hstep id (Nat.lt_of_lt_of_le hid h0i)]; exact hdd
  · rcases hj with hj | rfl
    · exact hI.pend j hj id hid h0
    · rw [hstep id (Nat.lt_of_lt_of_le hid h0i)]
/-- an operation that turns elder blocks -/
theorem step_writer (hr0 : Rel ρ0 (M 0) w0) (hG : Glob E ρ0) (hI : Inv ops nt T M D S ρ0 w0 ds0 ρ a w) {t : Nat} {c : Bool} {v : AV} (hd : D i = .heavy (some t) c) (hput : PutsTo nt o (T i) v (T (i + 1))) (hg : OpGV E P nt ops o (T i) (M i) v (M (i + 1)))
    (hone : c = false → ∀ id, id < (M i).nx → id ≠ t → (M (i + 1)).hp.get id = (M i).hp.get id)
    (rd : Option Nat) (n : Nat) (K : Act → World → Prop) (Q : Exit → Act → World → Prop) (hK : ∀ ρ' a' w', Inv ops nt T M D (fun j => S j ∨ j = i) ρ0 w0 ds0 ρ' a' w' → K a' w') :
    if Region.wanted o (yielded ops a.tmps) then o.wpIn (fence rd) n P a w K Q else (∀ f, o.about P w a.eval = some f → (fence rd).fn f) ∧ K (a.put o.dst undef) w := by
  have hlt : i < ops.size := (Array.getElem?_eq_some_iff.1 hi).1
  have h0i := nx_mono hC (Nat.zero_le i) (Nat.le_of_lt hlt)
  have hii := nx_step hC hlt
  obtain ⟨N, hNs, h1, h2, hr, hbk⟩ := hI.bound
  have hwr : Writer D i := ⟨_, _, hd⟩
  have hh : Heavy D i := ⟨_, _, hd⟩
  have hiN : i = N := by
    have h3 := heavy_front hC hi hni hrd hI.closed h2 hh
    rcases Nat.lt_or_ge i N with h | h
    · exact absurd (h1 i h hwr) hni
    · omega
  subst hiN
  have hcut : cut ρ (M i).nx = ρ := cut_all fun id l h => (hr.lt id l h).2
  refine hg rd n ρ a w (hG.mono hI.le) ⟨(reads_ok hC hi hni hrd hI).1, fun s h3 h4 h5 => ((reads_ok hC hi hni hrd hI).2 s h3 h4 h5).mono cut_le⟩ hr K Q fun ρ1 v' w' hp hv => ?_
  have hnews := news_step hC hr0 hI (n := (M i).nx) (by rw [hcut]; exact hp) h0i fun id hid hdd => dead_at hC hI i hNs h1 id hid hdd
  obtain ⟨N', h3, h4, h5, h6⟩ := next_writer hC (fun j => S j ∨ j = i) (ops.size - (i + 1)) (i + 1) (by omega)
  have hnw : ∀ j, i + 1 ≤ j → j < N' → ¬ Writer D j := by
    intro j h7 h8 hw
    rcases h5 j h7 h8 hw with hS | rfl
    · obtain ⟨t, c, e⟩ := hw
      exact heavy_behind hC hI.closed hI.lt (h2 hlt) h7 ⟨_, _, e⟩ hS
    · omega
  have hrel : Rel ρ1 (M N') w' := rel_advance hC hp.rel h3 h4 hnw
  have hkeep := keep_range hC h3 h4 hnw
  have hsl := slots_step hC hi hni hrd hI hp.le hput (v' := v') (hv.mono fun j l h => cut_some.2 ⟨(hp.rel.lt _ _ h).2, h⟩)
  have elder : ∀ {id : Nat} {l : Loc}, ρ1 id = some l → id < (M i).nx → ρ id = some l := by
    intro id l h h'
    cases hc : ρ id with
    | some l' => have := hp.le _ _ hc; rw [this] at h; exact h
    | none => have := (hp.new _ _ h hc).1; omega
  refine hK ρ1 _ w' ⟨(closed_add hI.closed hi hrd).1, fun j hj => ?_, ⟨N', h4, fun j hj hw => ?_, h6, hrel, fun k id l x hkN hid hl hx hcond => ?_⟩, fun id l hl => ?_, hsl.1, hsl.2, ?_, Ren.le_trans hI.le hp.le, hnews.1,
    fun j hj id hid hdd => ?_, fun j hj id hid h0 => ?_, hnews.2.1, hnews.2.2.1, hnews.2.2.2⟩
  · rcases hj with hj | rfl
    · exact hI.lt j hj
    · exact hlt
  · rcases Nat.lt_or_ge j i with h | h
    · exact .inl (h1 j h hw)
    · by_cases e : j = i
      · exact .inr e
      · exact absurd hw (hnw j (by omega) hj)
  · rcases Nat.lt_or_ge i k with h | h
    · rw [cut_all fun id l h' => Nat.lt_of_lt_of_le (hp.rel.lt id l h').2 (nx_mono hC h (by omega))]
      exact hrel.blk id x l hx hl
    · have hki := nx_mono hC h (Nat.le_of_lt hlt)
      obtain ⟨hc, ht⟩ := hcond i t c h h3 hd
      have hx1 : (M i).hp.get id = some x := by rw [← hone hc id (by omega) (fun e => ht e.symm), ← hkeep id (by omega)]; exact hx
      have hl0 := elder hl (by omega)
      have old := hbk k id l x h hid hl0 hx1 fun j t c h7 h8 h9 => hcond j t c h7 (by omega) h9
      exact (old.mono (cut_mono hp.le (Nat.le_refl _))).back cut_le (hrel.blk id x l hx hl)
  · cases hc : ρ id with
    | some l' =>
      rcases hI.own id l' hc with h | ⟨j, h3, h4⟩
      · exact .inl h
      · exact .inr ⟨j, .inl h3, h4⟩
    | none => exact .inr ⟨i, .inr rfl, (hp.new _ _ hl hc).1, (hp.rel.lt _ _ hl).2⟩
  · have : (a.put o.dst v').defers = a.defers := by unfold Act.put; cases o.dst <;> rfl
    rw [this]; exact hI.defers
  · rcases hj with hj | rfl
    · exact hI.dead j hj id hid hdd
    · exact hp.dead id (by omega) hdd
  · rcases hj with hj | rfl
    · exact hI.pend j hj id hid h0
    · refine hp.pend id (by omega) ?_
      cases hc : ρ id with
      | none => rfl
      | some l => have := (hI.new id l hc h0).1; omega
/-- whatever comes next -/
theorem inv_step (hr0 : Rel ρ0 (M 0) w0) (hG : Glob E ρ0) (hI : Inv ops nt T M D S ρ0 w0 ds0 ρ a w)
    (rd : Option Nat) (n : Nat) (K : Act → World → Prop) (Q : Exit → Act → World → Prop) (hK : ∀ ρ' a' w', Inv ops nt T M D (fun j => S j ∨ j = i) ρ0 w0 ds0 ρ' a' w' → K a' w') : wpOpIn (fence rd) n P ops Q i K a w := by
  unfold wpOpIn
  simp only [hi]
  have h := hC.op i o hi
  cases hd : D i with
  | none => rw [hd] at h; cases h with | none v hput hm hg => exact step_none hC hi hni hrd hr0 hG hI hd hput hm hg rd n K Q hK
  | read b => rw [hd] at h; cases h with | read b v hput hm hq hl hb hg => exact step_read hC hi hni hrd hr0 hG hI hd hput hm hl hb hg rd n K Q hK
  | heavy w' c =>
    rw [hd] at h
    cases h with
    | heavy w' c v hput hq hnx h0 h1 hg =>
      cases w' with
      | none => exact step_heavy hC hi hni hrd hr0 hG hI hd hput hg rd n K Q hK
      | some t => exact step_writer hC hi hni hrd hr0 hG hI hd hput hg (h1 t rfl) rd n K Q hK
end

/-! ### The region -/
section
variable {E : Env} {P : Program} {nt : Nat} {ops : Array Oper} {T : Nat → TM} {M : Nat → Mem} {D : Nat → Did} (hC : Canon E P nt ops T M D) {ρ0 : Ren} {w0 : World} {ds0 : List Deferred}
include hC
theorem any_ok (hr0 : Rel ρ0 (M 0) w0) (hG : Glob E ρ0) (rd : Option Nat) (n : Nat) (Q : Exit → Act → World → Prop) (hQ : ∀ ρ' a' w', Inv ops nt T M D (fun j => j < ops.size) ρ0 w0 ds0 ρ' a' w' → Q .normal a' w') :
    ∀ (fuel : Nat) (listed : Array Bool) (L : List Nat) (ρ : Ren) (a : Act) (w : World), listed.size = ops.size → (∀ j, j < ops.size → listed.getD j false = true ∨ j ∈ L) → L.length ≤ fuel → Inv ops nt T M D (fun j => listed.getD j false = true) ρ0 w0 ds0 ρ a w →
      wpAnyIn (fence rd) n P .any ops Q fuel listed a w := by
  have fin : ∀ (listed : Array Bool) (ρ : Ren) (a : Act) (w : World), (∀ j, j < ops.size → listed.getD j false = true) → Inv ops nt T M D (fun j => listed.getD j false = true) ρ0 w0 ds0 ρ a w → Q .normal a w := by
    intro listed ρ a w hall hI
    have e : (fun j => listed.getD j false = true) = fun j => j < ops.size := by
      funext j
      exact propext ⟨hI.lt j, hall j⟩
    rw [e] at hI
    exact hQ ρ a w hI
  -- if nothing is ready, all is done
  have none_ready : ∀ (listed : Array Bool), listed.size = ops.size → Region.ready .any ops listed = [] → ∀ j, j < ops.size → listed.getD j false = true := by
    intro listed hsz hr j
    induction j using Nat.strongRecOn with
    | ind j ih =>
      intro hj
      cases hl : listed.getD j false with
      | true => rfl
      | false =>
        have : j ∈ Region.ready .any ops listed := by
          rw [mem_ready]
          obtain ⟨b, hb⟩ := get_op (ops := ops) hj
          refine ⟨?_, b, hb, fun e he hbd => ?_⟩
          · have hjl : j < listed.size := by omega
            simp only [Array.getD, hjl, dite_true] at hl ⊢
            exact hl
          · have := after_lt hC.static hb he hbd
            exact ih e.on this (by omega)
        rw [hr] at this; cases this
  intro fuel
  induction fuel with
  | zero =>
    intro listed L ρ a w hsz hL hlen hI
    have hall : ∀ j, j < ops.size → listed.getD j false = true := by
      intro j hj
      rcases hL j hj with h | h
      · exact h
      · have : L = [] := List.length_eq_zero_iff.1 (by omega)
        rw [this] at h; cases h
    refine ⟨?_, fin listed ρ a w hall hI⟩
    cases hr : Region.ready .any ops listed with
    | nil => rfl
    | cons j rs =>
      have : j ∈ Region.ready .any ops listed := by rw [hr]; exact List.mem_cons_self ..
      obtain ⟨h1, b, hb, _⟩ := mem_ready.1 this
      have hj : j < ops.size := (Array.getElem?_eq_some_iff.1 hb).1
      have h2 := hall j hj
      have hjl : j < listed.size := by omega
      simp only [Array.getD, hjl, dite_true] at h1 h2
      rw [h1] at h2; cases h2
  | succ fuel ih =>
    intro listed L ρ a w hsz hL hlen hI
    refine ⟨fun hr => fin listed ρ a w (none_ready listed hsz hr) hI, fun i hir => ?_⟩
    obtain ⟨h1, o, ho, hall⟩ := mem_ready.1 hir
    have hi : i < ops.size := (Array.getElem?_eq_some_iff.1 ho).1
    have hil : i < listed.size := by omega
    have hni : ¬ listed.getD i false = true := by
      simp only [Array.getD, hil, dite_true] at h1 ⊢
      rw [h1]; simp
    refine inv_step hC ho hni hall hr0 hG hI rd n _ Q fun ρ' a' w' hI' => ?_
    have hset : ∀ j, (listed.setIfInBounds i true).getD j false = true ↔ (listed.getD j false = true ∨ j = i) := by
      intro j
      rw [Array.getD_eq_getD_getElem?, Array.getElem?_setIfInBounds, Array.getD_eq_getD_getElem?]
      by_cases e : i = j
      · subst e; simp [hil]
      · rw [if_neg e]
        constructor
        · exact .inl
        · rintro (h | h)
          · exact h
          · exact absurd h.symm e
    refine ih (listed.setIfInBounds i true) (L.erase i) ρ' a' w' (by simp [hsz]) (fun j hj => ?_) ?_ ?_
    · by_cases e : j = i
      · exact .inl ((hset j).2 (.inr e))
      · rcases hL j hj with h | h
        · exact .inl ((hset j).2 (.inl h))
        · exact .inr ((List.mem_erase_of_ne e).2 h)
    · have hiL : i ∈ L := by
        rcases hL i hi with h | h
        · exact absurd h hni
        · exact h
      rw [List.length_erase_of_mem hiL]; omega
    · have e : (fun j => (listed.setIfInBounds i true).getD j false = true) = fun j => listed.getD j false = true ∨ j = i := by
        funext j; exact propext (hset j)
      rw [e]; exact hI'
end
section
variable {E : Env} {P : Program} (hE : EnvOK E P)
include hE
theorem draw_ok {ih : Fs} (hF : FsOK E P ih) : DrawOK E P ih := by
  intro nt id ops tm m k r h
  unfold drawC at h
  cases hst : staticOk ops with
  | false => rw [hst] at h; exact nomatch (show (none : R) = some r from h)
  | true =>
    rw [hst] at h
    have h : (drawL E nt ops.toList ops.toList).f ih tm m (fun tm' m' ds => br (allL (fun (p : Nat × Nat) => agreeAt ds p.1 p.2) (loudPairs ops)) (k tm' m') none) = some r := by
      have h : (DsC.rec (motive := fun _ => OpC) (fun f => ⟨fun ih tm m k => f ih tm m fun tm' m' ds => br (allL (fun (p : Nat × Nat) => agreeAt ds p.1 p.2) (loudPairs ops)) (k tm' m') none⟩) (drawL E nt ops.toList ops.toList) : OpC).f ih tm m k = some r := h
      generalize drawL E nt ops.toList ops.toList = c at h ⊢
      cases c; exact h
    obtain ⟨T, M, D, ds, e1, e2, h3, hfr, h4, h5⟩ := drawL_ok hE hF ops.toList h
    obtain ⟨hag, h6⟩ := br_none h3
    have hlen : ops.toList.length = ops.size := by simp
    rw [hlen] at h6 hfr h4
    subst e1 e2
    have hC : Canon E P nt ops T M D := by
      refine ⟨hst, fun i o hi => h5 i o (by simpa using hi), fun i j a b ha hb hlt hl hqa hqb => ?_⟩
      have := (allL_iff _ _).1 hag _ (loud_mem ha hb hlt hl hqa hqb)
      unfold agreeAt at this
      have hi : i < ops.size := (Array.getElem?_eq_some_iff.1 ha).1
      have hj : j < ops.size := (Array.getElem?_eq_some_iff.1 hb).1
      simp only [nthL_eq, h4 i hi, h4 j hj] at this
      exact this
    refine ⟨_, _, h6, hfr, fun rd n ρ a w hG ht hr Q hQ => wpIn_region_any hE.mixed ?_⟩
    refine any_ok (ds0 := a.defers) hC hr hG rd n Q (fun ρ' a' w' hI => ?_) ops.size (Array.replicate ops.size false) (List.range ops.size) ρ a _ (by simp) (fun j hj => .inr (by simpa using hj)) (by simp) ?_
    · obtain ⟨hp, ht', hd'⟩ := inv_end hC hr hI fun j hj => hj
      exact hQ ρ' a' w' hp ht' hd'
    · have e : (fun j => (Array.replicate ops.size false).getD j false = true) = fun _ => False := by
        funext j
        by_cases hj : j < ops.size
        · simp [Array.getD, hj]
        · simp [Array.getD, hj]
      rw [e]
      exact inv_start hC hr ht rfl ⟨rfl, rfl⟩
end
end Go.Rx
