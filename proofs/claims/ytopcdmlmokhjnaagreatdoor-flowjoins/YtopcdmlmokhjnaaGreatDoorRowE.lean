/-
  FlowJoins: for every input the law returns true: the row, and its tied card.
-/
import Derived.Test.YtopcdmlmokhjnaaGreatDoorRunJ
import Derived.Test.YtopcdmlmokhjnaaGreatDoorAwake
import Derived.Test.YtopcdmlmokhjnaaGreatDoorTie
import Derived.Test.YtopcdmlmokhjnaaGreatDoorCards
import Derived.ProofKit
import Derived.OpenShut
import Derived.LaidMore
import Derived.Lay
import Derived.SevenTiedAt
import Derived.Stop.Joined
import Derived.Deep.Strs
set_option maxRecDepth 100000
set_option linter.unusedVariables false
set_option linter.unusedSimpArgs false
namespace Go.Proofs.YtopcdmlmokhjnaaGreatDoor
open Go.ChangeShapes Go.WideShapes Go.ChangeAt Go.RowKit Go.Rx

theorem own : ownKnob Tryz.prog.godebug = none := by kernel_rfl

/-! ### The walk -/
def byts (s : ByteArray) : List UInt8 := s.data.toList
def factV (k : Nat) (n : Bool) (s : ByteArray) (b : Nat) : Value := .agg #[.int .u8 k, .bool n, .string s, .float .f64 b]
theorem vr_fact (k : Nat) (n : Bool) (s : ByteArray) (b : Nat) : VR (fun _ => none) (encF ⟨k, ⟨n, s.data.toList, b⟩⟩) (factV k n s b) :=
  VR.agg (l := [.int .u8 k, .bool n, .string s, .float .f64 b]) (.cons (.int .u8 (.ofNat k)) (.cons (.bool n) (.cons (.str s.data.toList) (.cons (.oth _ (by intro cs e; cases e)) .nl))))
    (by intro v hv; simp at hv; rcases hv with rfl | rfl | rfl | rfl <;> rfl)
theorem law_true (k1 k2 : Nat) (n1 n2 : Bool) (s1 s2 : ByteArray) (b1 b2 : Nat) (hk1 : k1 < 256) (hk2 : k2 < 256) (hb1 : b1 < 18446744073709551616) (hb2 : b2 < 18446744073709551616) (w : World) :
    Calls Tryz.prog 3 #[factV k1 n1 s1 b1, factV k2 n2 s2 b2] w fun e w' =>
      e = .returned (.bool true) ∧ w.heap.size ≤ w'.heap.size ∧ (w'.os = w.os ∧ w'.output = w.output) ∧ ∀ b, b < w.heap.size → w'.heap[b]? = w.heap[b]? := by
  rcases p3 p5' (⟨⟨k1, ⟨n1, s1.data.toList, b1⟩⟩, hb1, hk1⟩, ⟨⟨k2, ⟨n2, s2.data.toList, b2⟩⟩, hb2, hk2⟩) mz (fun _ => none) w [factV k1 n1 s1 b1, factV k2 n2 s2 b2]
    (fun g hg => absurd hg (Nat.not_lt_zero _)) (.cons (vr_fact ..) (.cons (vr_fact ..) .nl)) (rel_none w) with ⟨ρ', v', w', h1, _⟩ | ⟨_, h2⟩
  · have h3 := call_of_names namesJ Tryz.func3 rfl #[factV k1 n1 s1 b1, factV k2 n2 s2 b2] w
    rw [h3] at h1; cases h1
  · refine Calls.mono (callsIn_wide.1 (h2 0)) fun e w' he => ?_
    obtain ⟨ρ', v', rfl, hp, hv⟩ := he
    have := vr_bool hv; subst this
    exact ⟨rfl, post_none hp⟩

/-! ### The arguments -/
theorem cells26 : Tryz.prog.cellsOf 26 = 4 := by kernel_rfl
theorem cells24 : Tryz.prog.cellsOf 24 = 3 := by kernel_rfl
theorem cells5 : Tryz.prog.cellsOf 5 = 1 := by kernel_rfl
theorem cells4 : Tryz.prog.cellsOf 4 = 1 := by kernel_rfl
theorem cells9 : Tryz.prog.cellsOf 9 = 1 := by kernel_rfl
theorem cells22 : Tryz.prog.cellsOf 22 = 1 := by kernel_rfl
section
variable {H : Type} {enc : TypeId × Value → H}
theorem trod_float {w : World} {base : Nat} {sp : Nat → Bool} {held : Bool} {fuel : Nat} {cs : List Value} {x : DataW H × List MemPlace} (h : DataW.trod enc Tryz.prog w base sp held fuel 22 cs = some x) :
    ∃ b, cs = [.float .f64 b] ∧ x = (.lit (.float .f64 b), []) ∧ (Lit.float .f64 b).wf = true := by
  cases fuel with
  | zero => simp [DataW.trod] at h
  | succ n =>
    unfold DataW.trod at h
    rw [Tryz.underlying22] at h
    split at h <;> simp_all
theorem trod_float_mk {w : World} {base : Nat} {sp : Nat → Bool} {held : Bool} {b : Nat} (m : Nat) (hw : (Lit.float .f64 b).wf = true) : DataW.trod enc Tryz.prog w base sp held (m + 1) 22 [.float .f64 b] = some (.lit (.float .f64 b), []) := by
  simp [DataW.trod, Tryz.underlying22, hw]
theorem flt_wf {b : Nat} (h : (Lit.float .f64 b).wf = true) : b < 18446744073709551616 := by
  simpa [Lit.wf] using h
/-- an argument is a fact, and reads so in every memory -/
theorem open_fact {r : Reach} {b0 : Nat} {W : World} {base : Nat} {sp : Nat → Bool} {held : Bool} {v : Value} {d : DataW H} {ps : List MemPlace} (hval : Value.okWide Tryz.prog W r b0 26 v) (h : DataW.Trod enc Tryz.prog W base sp held 26 v d ps) :
    ∃ k n s b, v = factV k n s b ∧ k < 256 ∧ b < 18446744073709551616 ∧ ps = [] ∧ ∀ (W' : World) (base' : Nat) (sp' : Nat → Bool) (held' : Bool), DataW.Trod enc Tryz.prog W' base' sp' held' 26 v d [] := by
  obtain ⟨cs, rfl, hsz⟩ := okWide_struct Tryz.underlying26 hval
  obtain ⟨fuel, hf⟩ := h
  obtain ⟨y0, y1, n, hx, hl, h0, h1⟩ := trod_struct2 Tryz.underlying26 hf
  simp only [cells5, cells24] at h0 h1
  obtain ⟨z0, z1, z2, n', hx1, hl1, h2, h3, h4⟩ := Deep.trod_struct3 Tryz.underlying24 h1
  simp only [cells4, cells9, cells22] at h2 h3 h4
  obtain ⟨k, e0, rfl, wk⟩ := DataW.trod_int Tryz.underlying5 h0
  obtain ⟨nb, e1, rfl⟩ := DataW.trod_bool Tryz.underlying4 h2
  obtain ⟨s, e2, rfl, ws⟩ := DataW.trod_string Tryz.underlying9 h3
  obtain ⟨b, e3, rfl, wb⟩ := trod_float h4
  obtain ⟨l⟩ := cs
  simp only [Value.cells] at e0 e1 e2 e3 hl
  rw [cells26] at hl
  match l, hl with
  | [c0, c1, c2, c3], _ =>
    simp at e0 e1 e2 e3
    subst e0 e1 e2 e3
    simp only [Prod.mk.injEq] at hx
    obtain ⟨rfl, rfl⟩ := hx
    subst hx1
    have hk : 0 ≤ k := by
      have := bounds_u8 wk
      omega
    obtain ⟨k', rfl⟩ : ∃ k' : Nat, k = k' := ⟨k.toNat, by omega⟩
    refine ⟨k', nb, s, b, rfl, (by have := bounds_u8 wk; omega), flt_wf wb, rfl, fun W' base' sp' held' => ⟨3, ?_⟩⟩
    have e1 := Deep.trod_struct3_mk (enc := enc) (w := W') (base := base') (spare := sp') (held := held') (n := 1) (cs := [.bool nb, .string s, .float .f64 b]) (y0 := (.lit (.bool nb), [])) (y1 := (.lit (.string s.data.toList), [])) (y2 := (.lit (.float .f64 b), []))
      Tryz.underlying24 (by rw [cells24]; rfl) (by rw [cells4]; simp [DataW.trod, Tryz.underlying4]) (by rw [cells9]; simp [DataW.trod, Tryz.underlying9, ws]) (by rw [cells22]; exact trod_float_mk 0 wb)
    have e2 := trod_struct2_mk (enc := enc) (w := W') (base := base') (spare := sp') (held := held') (n := 2) (cs := [.int .u8 k', .bool nb, .string s, .float .f64 b]) (y0 := (.lit (.int .u8 k'), [])) (y1 := _)
      Tryz.underlying26 (by rw [cells26]; rfl) (by rw [cells5]; exact trod_int_mk 1 Tryz.underlying5 wk) (by rw [cells24]; exact e1)
    exact e2
end

/-! ### The row -/
theorem keptBut_old {W W' : World} (hio : W'.os = W.os ∧ W'.output = W.output) (h : ∀ b, b < W.heap.size → W'.heap[b]? = W.heap[b]?) (may : MemPlace → Prop) : W.keptBut W' may := by
  refine ⟨hio.1, hio.2, fun i hi => ?_⟩
  rw [h i hi]
  cases hc : W.heap[i]? with
  | none => trivial
  | some o => cases o <;> simp
theorem lifted (os : Os) (started : os.Started) (H : Type) (enc : TypeId × Value → H) :
    ReturnsInHanded {} Tryz.checked os 3 .any (fun w args => (Rows.flowJoinsSpec.pre enc Tryz.prog Tryz.f3 [] false w args ∧ laidMetH Tryz.prog Rows.flowJoinsRow.laid w) ∧ sizedMet enc Tryz.prog Tryz.f3 (OpenSpec.ofChange Rows.flowJoinsSpec) false w args)
      (Rows.flowJoinsSpec.post enc Tryz.prog Tryz.f3 false true false false) := by
  refine returnsInHanded_of_change_and (C := Tryz.checked) (X := fun w _ => laidMetH Tryz.prog Rows.flowJoinsRow.laid w) (fun _ _ _ hh h => h.of_heap hh) own started (by kernel_rfl) Tryz.func3
    (ChangeSpec.witness_shaped (enc := enc) (C := Tryz.checked) (os := os) (X := fun w _ => laidMetH Tryz.prog Rows.flowJoinsRow.laid w) false (World.laidAll Tryz.prog os Rows.flowJoinsRow.laid) #[factV 0 false ByteArray.empty 0, factV 0 false ByteArray.empty 0] 8 (World.laidAll_os _ _ _)
      (World.shaped_of_ZipB (by kernel_rfl) (by kernel_rfl)) (by kernel_rfl) (by kernel_rfl) (by kernel_rfl)
      (by rw [MakeChecks.laidMetH_plain _ _ _ (by kernel_rfl)]; exact laidMet_laidAll _ (by kernel_rfl) (by kernel_rfl))) ?_
  intro W base args ds gs before hval0 hW hc _ hL _
  have hval : ∀ (j : Nat) t v, Tryz.f3.params[j]? = some t → args[j]? = some v → Value.okWide Tryz.prog W .any base t v := hval0
  have hW' := hW
  obtain ⟨p, q, hA0, hV, rfl, hfz, hnd⟩ := hW
  have hA : DataW.TrodAll enc Tryz.prog W 0 (fun _ => true) true Tryz.f3.params.toList args.toList ds p := hA0
  rw [Tryz.params3] at hA hval
  obtain ⟨v1, v2, d1, d2, p1, p2, rfl, rfl, rfl, h1, h2⟩ := trodAll_two hA
  obtain ⟨rfl, rfl⟩ := trodVars_none hV
  obtain ⟨k1, n1, s1, b1, rfl, hk1, hb1, rfl, r1⟩ := open_fact (hval 0 26 v1 rfl rfl) h1
  obtain ⟨k2, n2, s2, b2, rfl, hk2, hb2, rfl, r2⟩ := open_fact (hval 1 26 v2 rfl rfl) h2
  refine (law_true k1 k2 n1 n2 s1 s2 b1 b2 hk1 hk2 hb1 hb2 W).mono fun e W' ⟨he, hsz, hio, hheap⟩ => ?_
  subst he
  refine ⟨_, rfl, _, _, _, [], [], [], hW', ?_, ?_, ?_, keptBut_old hio hheap _, fun h => by cases h⟩
  · exact trodAll_mk1 (shut_bool Tryz.underlying4 true)
  · show DataW.TrodAll enc Tryz.prog W' 0 _ true Tryz.f3.params.toList _ _ _
    rw [Tryz.params3]
    exact trodAll_mk2 (r1 _ _ _ _) (r2 _ _ _ _)
  · exact rfl
end Go.Proofs.YtopcdmlmokhjnaaGreatDoor
