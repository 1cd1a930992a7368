/-
  theirs; equal; joins.
-/
import Derived.Test.YtopcdmlmokhjnaaGreatDoorMemH
import Derived.Test.YtopcdmlmokhjnaaGreatDoorRxRead
set_option linter.unusedSimpArgs false
set_option linter.unusedVariables false
set_option maxRecDepth 100000
set_option maxHeartbeats 8000000
namespace Go.Proofs
open Go Go.Rx
abbrev cellsF (f : Fc) : AV := .cons (.int .u8 (.ofNat f.k)) (.cons (.bool f.v.n) (.cons (.str f.v.s) (.cons (.oth (.float .f64 f.v.b)) .nl)))
abbrev cellsG (f : Fc) : AV := .cons (.int .i64 (.ofNat f.k)) (.cons (.bool f.v.n) (.cons (.str f.v.s) (.cons (.oth (.float .f64 f.v.b)) .nl)))
abbrev cellsFF (f g : Fc) : AV := .cons (.int .u8 (.ofNat f.k)) (.cons (.bool f.v.n) (.cons (.str f.v.s) (.cons (.oth (.float .f64 f.v.b)) (.cons (.int .u8 (.ofNat g.k)) (.cons (.bool g.v.n) (.cons (.str g.v.s) (.cons (.oth (.float .f64 g.v.b)) .nl)))))))
abbrev cellsGG (f g : Fc) : AV := .cons (.int .i64 (.ofNat f.k)) (.cons (.bool f.v.n) (.cons (.str f.v.s) (.cons (.oth (.float .f64 f.v.b)) (.cons (.int .i64 (.ofNat g.k)) (.cons (.bool g.v.n) (.cons (.str g.v.s) (.cons (.oth (.float .f64 g.v.b)) .nl)))))))
instance memNe : Nonempty Mem := ⟨mz⟩
noncomputable def m61 (m : Mem) (c : Nat) : Mem := Classical.epsilon fun m' => ∀ L k, (fnC EJ 6).f (fsExt L 24 S24) (.cons (.slc c 0 1 1) .nl) m k = k (.slc (m.nx + 2) 0 1 1) m'
noncomputable def m62 (m : Mem) (c : Nat) : Mem := Classical.epsilon fun m' => ∀ L k, (fnC EJ 6).f (fsExt L 24 S24) (.cons (.slc c 0 2 2) .nl) m k = k (.slc (m.nx + 5) 0 2 2) m'
noncomputable def m29 (b : Bool) (m : Mem) (c d : Nat) : Mem := Classical.epsilon fun m' => ∀ L k, (fnC EJ 29).f (fsExt L 30 S30) (.cons (.slc c 0 1 1) (.cons (.slc d 0 1 1) (.cons (.fn 30 .nl) .nl))) m k = k (.bool b) m'
theorem eps {v : AV} {F : Fs → (AV → Mem → R) → R} {P : Mem → Prop} (h : ∃ m', (∀ L k, F L k = k v m') ∧ P m') : (∀ L k, F L k = k v (Classical.epsilon fun m' => ∀ L k, F L k = k v m')) ∧ P (Classical.epsilon fun m' => ∀ L k, F L k = k v m') := by
  obtain ⟨m', h1, h2⟩ := h
  have e := Classical.epsilon_spec (p := fun m' => ∀ L k, F L k = k v m') ⟨m', h1⟩
  have e2 : (Classical.epsilon fun m' => ∀ L k, F L k = k v m') = m' := by
    have a := e fs0 (fun v m => some (.mk v m))
    have b := h1 fs0 (fun v m => some (.mk v m))
    rw [a] at b
    injection b with b; injection b
  refine ⟨e, ?_⟩
  rw [e2]; exact h2
section
variable (f g : Fc) (hk : f.k < 9223372036854775808) (hk' : g.k < 9223372036854775808) (m : Mem) (c d : Nat) (hcn : c < m.nx) (hdn : d < m.nx) (hlo : m.lo ≤ m.nx)
include hk hcn hlo in
theorem a61 (hc : m.hp.get c = some (.cells (cellsF f) none)) : (∀ L k, (fnC EJ 6).f (fsExt L 24 S24) (.cons (.slc c 0 1 1) .nl) m k = k (.slc (m.nx + 2) 0 1 1) (m61 m c)) ∧ Keeps m (m61 m c) ∧ (m61 m c).nx = m.nx + 3 ∧ (m61 m c).hp.get (m.nx + 2) = some (.cells (cellsG f) (some 4)) :=
  eps (x6_1 f hk m c _ hc hcn hlo)
include hk hk' hcn hlo in
theorem a62 (hc : m.hp.get c = some (.cells (cellsFF f g) none)) : (∀ L k, (fnC EJ 6).f (fsExt L 24 S24) (.cons (.slc c 0 2 2) .nl) m k = k (.slc (m.nx + 5) 0 2 2) (m62 m c)) ∧ Keeps m (m62 m c) ∧ (m62 m c).nx = m.nx + 6 ∧ (m62 m c).hp.get (m.nx + 5) = some (.cells (cellsGG f g) (some 4)) :=
  eps (x6_2 f g hk hk' m c _ hc hcn hlo)
include hcn hdn hlo in
theorem a29 (hf : f.v.b < 18446744073709551616) (hg : g.v.b < 18446744073709551616) (hc : m.hp.get c = some (.cells (cellsG f) (some 4))) (hd : m.hp.get d = some (.cells (cellsG g) none)) :
    (∀ L k, (fnC EJ 29).f (fsExt L 30 S30) (.cons (.slc c 0 1 1) (.cons (.slc d 0 1 1) (.cons (.fn 30 .nl) .nl))) m k = k (.bool (eqG f g)) (m29 (eqG f g) m c d)) ∧ Keeps m (m29 (eqG f g) m c d) :=
  eps (x29 f g hf hg m c d _ _ hc hd hcn hdn hlo)
variable (L : Fs) (k : AV → Mem → R)
include hk hcn hlo in
theorem c61 (hc : m.hp.get c = some (.cells (cellsF f) none)) : (fsInl EJ (fsExt L 24 S24) 6).call 6 (.cons (.slc c 0 1 1) .nl) m k = k (.slc (m.nx + 2) 0 1 1) (m61 m c) := inl_same.trans ((a61 f hk m c hcn hlo hc).1 L k)
include hk hcn hlo in
theorem l61 (hc : m.hp.get c = some (.cells (cellsF f) none)) : (m61 m c).lo = m.lo := (a61 f hk m c hcn hlo hc).2.1.lo
include hk hcn hlo in
theorem n61 (hc : m.hp.get c = some (.cells (cellsF f) none)) : (m61 m c).nx = m.nx + 3 := (a61 f hk m c hcn hlo hc).2.2.1
include hk hcn hlo in
theorem g61 (hc : m.hp.get c = some (.cells (cellsF f) none)) {i : Nat} (hi : i < m.nx) : (m61 m c).hp.get i = m.hp.get i := (a61 f hk m c hcn hlo hc).2.1.get i hi
include hk hcn hlo in
theorem h61 (hc : m.hp.get c = some (.cells (cellsF f) none)) {i : Nat} (hi : i = m.nx + 2) : (m61 m c).hp.get i = some (.cells (cellsG f) (some 4)) := hi ▸ (a61 f hk m c hcn hlo hc).2.2.2
include hk hk' hcn hlo in
theorem c62 (hc : m.hp.get c = some (.cells (cellsFF f g) none)) : (fsInl EJ (fsExt L 24 S24) 6).call 6 (.cons (.slc c 0 2 2) .nl) m k = k (.slc (m.nx + 5) 0 2 2) (m62 m c) := inl_same.trans ((a62 f g hk hk' m c hcn hlo hc).1 L k)
include hk hk' hcn hlo in
theorem l62 (hc : m.hp.get c = some (.cells (cellsFF f g) none)) : (m62 m c).lo = m.lo := (a62 f g hk hk' m c hcn hlo hc).2.1.lo
include hk hk' hcn hlo in
theorem n62 (hc : m.hp.get c = some (.cells (cellsFF f g) none)) : (m62 m c).nx = m.nx + 6 := (a62 f g hk hk' m c hcn hlo hc).2.2.1
include hk hk' hcn hlo in
theorem g62 (hc : m.hp.get c = some (.cells (cellsFF f g) none)) {i : Nat} (hi : i < m.nx) : (m62 m c).hp.get i = m.hp.get i := (a62 f g hk hk' m c hcn hlo hc).2.1.get i hi
include hk hk' hcn hlo in
theorem h62 (hc : m.hp.get c = some (.cells (cellsFF f g) none)) {i : Nat} (hi : i = m.nx + 5) : (m62 m c).hp.get i = some (.cells (cellsGG f g) (some 4)) := hi ▸ (a62 f g hk hk' m c hcn hlo hc).2.2.2
include hcn hdn hlo in
theorem c29 (hf : f.v.b < 18446744073709551616) (hg : g.v.b < 18446744073709551616) (hc : m.hp.get c = some (.cells (cellsG f) (some 4))) (hd : m.hp.get d = some (.cells (cellsG g) none)) :
    (fsInl EJ (fsExt L 30 S30) 29).call 29 (.cons (.slc c 0 1 1) (.cons (.slc d 0 1 1) (.cons (.fn 30 .nl) .nl))) m k = k (.bool (eqG f g)) (m29 (eqG f g) m c d) := inl_same.trans ((a29 f g m c d hcn hdn hlo hf hg hc hd).1 L k)
include hcn hdn hlo in
theorem l29 (hf : f.v.b < 18446744073709551616) (hg : g.v.b < 18446744073709551616) (hc : m.hp.get c = some (.cells (cellsG f) (some 4))) (hd : m.hp.get d = some (.cells (cellsG g) none)) {r : Bool} (hr : r = eqG f g) : (m29 r m c d).lo = m.lo := hr ▸ (a29 f g m c d hcn hdn hlo hf hg hc hd).2.lo
end
/-- from here on: the library of joins -/
theorem run4 (a b : Fc) (hka : a.k < 9223372036854775808) (hkb : b.k < 9223372036854775808) (hba : a.v.b < 18446744073709551616) (hbb : b.v.b < 18446744073709551616)
    (e1 : sameG a b = sameFc a b) (e2 : belowG a b = belowF a b) (e3 : eqG (joinF a b) (joinG a b) = true)
    (hkj : (joinF a b).k < 9223372036854775808) (hbj : (joinF a b).v.b < 18446744073709551616) (hbg : (joinG a b).v.b < 18446744073709551616) :
    (fnC EJ 4).f (fsInl EJ (fsInl EJ (fsExt (fsInl EJ (fsExt (fsExt (fsExt (fsExt (fsExt (fsExt (fsExt fs0 7 S7) 8 S8) 9 S9) 10 S10) 12 S12) 13 S13) 24 S24) 6) 30 S30) 29) 11) (.cons (encF a) (.cons (encF b) .nl)) mz (fun v _ => some (.mk v mz)) = some (.mk (.bool true) mz) := by
  simp (config := { maxSteps := 100000000 }) only [D4_110_40_t, D4_110_39_t, D4_110_38_t, D4_110_37_t, D4_110_36_t, D4_110_35_t, D4_110_34_t, D4_110_33_t, D4_110_32_t, D4_110_31_t, D4_110_30_t, D4_110_29_t, D4_110_28_t, D4_110_27_t, D4_110_26_t, D4_110_24_t, D4_110_23_t, D4_110_22_t, D4_110_21_t, D4_110_20_t, D4_110_19_t, D4_110_18_t, D4_110_17_t, D4_110_16_t, D4_110_15_t, D4_110_14_t, D4_110_13_t, D4_110_10_t, D4_110_5_t, D4_110_0_t, C4_111_t, C4_110_t, C4_11_t, C4__t, D4_110_40_r, D4_110_39_r, D4_110_38_r, D4_110_37_r, D4_110_36_r, D4_110_35_r, D4_110_34_r, D4_110_33_r, D4_110_32_r, D4_110_31_r, D4_110_30_r, D4_110_29_r, D4_110_28_r, D4_110_27_r, D4_110_26_r, D4_110_24_r, D4_110_23_r, D4_110_22_r, D4_110_21_r, D4_110_20_r, D4_110_19_r, D4_110_18_r, D4_110_17_r, D4_110_16_r, D4_110_15_r, D4_110_14_r, D4_110_13_r, D4_110_10_r, D4_110_5_r, D4_110_0_r, C4_111_r, C4_110_r, C4_11_r, C4__r, K4_r, ↓F4_t, C11__t, C11__r, K11_r, ↓F11_t, ↓s_avInt, ↓s_avBool, ↓s_avTest, ↓s_avTest_u, ↓s_avPtr, ↓s_avSlc, ↓s_avSlc_nil, ↓s_avAgg, ↓s_avTup, ↓s_avStr, ↓s_avFn, ↓s_avFn_y, ↓s_avCons, s_get_same, s_get_ne, ↓s_cells_int, ↓s_cells_bool, ↓s_cells_ptr, ↓s_cells_slc, ↓s_cells_agg, ↓s_cells_str, ↓s_cells_fn, ↓s_cells_map, ↓s_cells_flt, ↓s_cells_nslc, ↓s_cells_nptr, ↓s_cells_nmap, ↓s_cells_nfn, ↓s_rdx, ↓s_wrx, ↓s_rd1, ↓s_rd, ↓s_wr, ↓s_setLo, ↓s_new, ↓s_load1, ↓s_loadn, ↓s_store, s_low, ↓s_drop0, ↓s_dropS, ↓s_take0, ↓s_takeS, ↓s_over0, ↓s_overS, ↓s_spl0, ↓s_splS, s_len0, s_lenS, s_app0, s_appS, s_rep0, s_repS, ↓s_fill0, ↓s_fillS, ↓s_part1, ↓s_partn, ↓s_below, s_notB, ↓s_not, ↓s_eql, ↓s_neq, ↓s_lss, ↓s_leq, ↓s_gtr, ↓s_geq, ↓s_add, ↓s_streq, ↓s_strne, ↓s_booleq, ↓s_boolne, ↓s_flteq, ↓s_fltne, s_add0, s_nadd, s_nmul, s_nsucc, s_tget, s_tget_ne, s_mzh, s_mzn, s_mzl, ↓s_did, ↓s_all0, ↓s_allS, ↓s_nth0, ↓s_nthS, ↓s_agreeAt, ↓s_orec, ↓s_orec0, ↓s_ag1, ↓s_ag2, ↓s_ag3, ↓s_ag4, ↓s_ag5, ↓s_ag6, ↓s_ag7, ↓s_ag8, ↓s_ag9, ↓s_marks0, ↓regK_app, ↓topK_app, ↓preK_app, ↓loop_f, ↓loopK_normal, ↓loopK_exit, ↓loopK_goto, ↓loopK_ret, ↓seqK_normal, ↓seqK_exit, ↓seqK_goto, ↓seqK_ret, ↓blkK_normal, ↓blkK_exit, ↓blkK_goto, ↓blkK_ret, ↓scopeK_normal, ↓scopeK_exit, ↓scopeK_ret, ↓br_t, ↓br_f, ↓ext_ne, LF_eq, ↓loopN_pos, s_beq, s_ble, s_blt, Nat.reduceLT, Nat.reduceLeDiff, Nat.reduceEqDiff, Nat.reduceAdd, Nat.reduceMul, Nat.reduceSub, Nat.reduceSucc, ne_eq, not_false_eq_true, decide_true, decide_false, Nat.zero_add, Bool.not_true, Bool.not_false, Nat.zero_mul, Nat.one_mul, reduceCtorEq, Nat.zero_le, Nat.le_refl, Nat.lt_irrefl, ↓s_lenSlc, ↓s_lenNil, ↓s_lenStr, ↓s_elSlc, ↓s_elNil, s_isNl, s_isNlC, ↓s_grow, ↓s_appNil, ↓s_ckx0, ↓s_ckx1, ↓s_cap, ↓s_kill, ↓s_appSlc, ↓inl_ne, ↓c62 a b, l62 a b, n62 a b, g62 a b, h62 a b, ↓c61 (joinF a b), l61 (joinF a b), n61 (joinF a b), g61 (joinF a b), h61 (joinF a b), ↓c29 (joinF a b) (joinG a b), l29 (joinF a b) (joinG a b), ↓inl_same (f := 11), ↓c7, ↓c8, ↓c9, ↓c10, ↓c12, ↓c13, ty4, hka, hkb, hba, hbb, e1, e2, e3, hkj, hbj, hbg, beq_self_eq_true, Nat.lt_irrefl]
end Go.Proofs
