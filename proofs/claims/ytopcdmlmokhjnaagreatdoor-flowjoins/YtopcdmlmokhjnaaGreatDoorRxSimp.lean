/-
  The executor's words, as rules: how a piece of code is run on values that are known in part.
-/
import Derived.Test.YtopcdmlmokhjnaaGreatDoorRxLib
set_option linter.unusedVariables false
namespace Go.Rx
section
variable {E : Env} {t n i j : Nat} {m : Mem} {b o l c : Nat} {a h x y : AV}
theorem s_avInt (j : IntKind) (n : Int) (k : IntKind → Int → R) : avInt (.int j n) k = k j n := id rfl
theorem s_avBool (b : Bool) (k : Bool → R) : avBool (.bool b) k = k b := id rfl
theorem s_avTest (b' b : Bool) (y n : R) : avTest (.bool b') b y n = br b' (br b y n) (br b n y) := id rfl
theorem s_avTest_u (b : Bool) (y n : R) : avTest undefA b y n = n := id rfl
theorem s_avPtr (k : Nat → Nat → R) : avPtr (.ptr b o) k = k b o := id rfl
theorem s_avSlc (k : Nat → Nat → Nat → Nat → R) (z : Nat → Nat → R) : avSlc (.slc b o l c) k z = k b o l c := id rfl
theorem s_avSlc_nil (k : Nat → Nat → Nat → Nat → R) (z : Nat → Nat → R) : avSlc (.oth (.slice none l c)) k z = z l c := id rfl
theorem s_avAgg (k : AV → R) : avAgg (.agg a) k = k a := id rfl
theorem s_avTup (k : AV → R) : avTup (.tup a) k = k a := id rfl
theorem s_avStr (s : List UInt8) (k : List UInt8 → R) : avStr (.str s) k = k s := id rfl
theorem s_avFn (f : FuncId) (k : FuncId → AV → R) (y : Nat → R) : avFn (.fn f a) k y = k f a := id rfl
theorem s_avFn_y (k : FuncId → AV → R) (y : Nat → R) : avFn (.yld n) k y = y n := id rfl
theorem s_avCons (k : AV → AV → R) : avCons (.cons h a) k = k h a := id rfl
theorem s_get_same {tm : TM} {v : AV} (ht : t < 512) : getT (setT tm t v) t = v := by rw [getT_setT ht ht, if_pos rfl]
theorem s_get_ne {tm : TM} {s : Nat} {v : AV} (ht : t < 512) (hs : s < 512) (h : s ≠ t) : getT (setT tm t v) s = getT tm s := by rw [getT_setT ht hs, if_neg h]
theorem s_cells_int (j : IntKind) (n : Int) (k : AV → R) : cellsK (.int j n) k = k (.cons (.int j n) .nl) := id rfl
theorem s_cells_bool (b : Bool) (k : AV → R) : cellsK (.bool b) k = k (.cons (.bool b) .nl) := id rfl
theorem s_cells_ptr (k : AV → R) : cellsK (.ptr b o) k = k (.cons (.ptr b o) .nl) := id rfl
theorem s_cells_slc (k : AV → R) : cellsK (.slc b o l c) k = k (.cons (.slc b o l c) .nl) := id rfl
theorem s_cells_agg (k : AV → R) : cellsK (.agg a) k = k a := id rfl
theorem s_cells_str (s : List UInt8) (k : AV → R) : cellsK (.str s) k = k (.cons (.str s) .nl) := id rfl
theorem s_cells_fn (f : FuncId) (k : AV → R) : cellsK (.fn f a) k = k (.cons (.fn f a) .nl) := id rfl
theorem s_cells_map (k : AV → R) : cellsK (.map n) k = k (.cons (.map n) .nl) := id rfl
theorem s_cells_flt (f : FloatKind) (n : Nat) (k : AV → R) : cellsK (.oth (.float f n)) k = k (.cons (.oth (.float f n)) .nl) := id rfl
theorem s_cells_nslc (k : AV → R) : cellsK (.oth (.slice none l c)) k = k (.cons (.oth (.slice none l c)) .nl) := id rfl
theorem s_cells_nptr (k : AV → R) : cellsK (.oth (.pointer none)) k = k (.cons (.oth (.pointer none)) .nl) := id rfl
theorem s_cells_nmap (k : AV → R) : cellsK (.oth (.map none)) k = k (.cons (.oth (.map none)) .nl) := id rfl
theorem s_cells_nfn (k : AV → R) : cellsK (.oth .nilFunc) k = k (.cons (.oth .nilFunc) .nl) := id rfl
/-! memory -/
noncomputable def rdx (x : Option Bk) (k : AV → R) : R := orec none (fun x => match x with | Bk.cells vs _ => k vs | _ => none) x
noncomputable def wrx (x : Option Bk) (k : AV → Option Nat → R) : R := orec none (fun x => match x with | Bk.cells vs e => k vs e | _ => none) x
theorem s_rdx (vs : AV) (e : Option Nat) (k : AV → R) : rdx (some (.cells vs e)) k = k vs := id rfl
theorem s_wrx (vs : AV) (e : Option Nat) (k : AV → Option Nat → R) : wrx (some (.cells vs e)) k = k vs e := id rfl
theorem s_rd1 (k : AV → R) : rd1 m b o k = rdx (m.hp.get b) fun vs => dropA o vs fun l => avCons l fun h _ => k h := id rfl
theorem s_rd (k : AV → R) : rd m b o n k = rdx (m.hp.get b) fun vs => dropA o vs fun l => takeA n l k := id rfl
theorem s_wr (xs : AV) (k : Mem → R) : wr m b o xs k = wrx (m.hp.get b) fun vs ext => spliceA xs o vs fun vs' => setLo m b (m.hp.set (some (.cells vs' ext)) b) k := by
  unfold wr wrx
  cases m.hp.get b with
  | none => rfl
  | some x => cases x <;> rfl
theorem s_setLo (hp : Tr Bk) (k : Mem → R) : setLo m b hp k = br (decide (m.lo ≤ b)) (k ⟨hp, m.nx, m.lo⟩) (k ⟨hp, m.nx, b⟩) := by
  unfold setLo
  congr 1
  exact Bool.eq_iff_iff.2 (by rw [decide_eq_true_iff]; exact ⟨nble, Nat.ble_eq_true_of_le⟩)
theorem s_new (x : Bk) (k : Mem → R) : new m x k = k ⟨m.hp.set (some x) m.nx, m.nx + 1, m.lo⟩ := id rfl
theorem s_load1 (k : AV → R) : loadC .one m (.ptr b o) k = rd1 m b o k := id rfl
theorem s_loadn (k : AV → R) : loadC (.many n) m (.ptr b o) k = rd m b o n fun l => k (.agg l) := id rfl
theorem s_store (v : AV) (k : Mem → R) : storeC n m (.ptr b o) v k = cellsK v fun cs => br (Nat.beq (lenA cs) n) (wr m b o cs k) none := id rfl
theorem s_low : lowM m = ⟨m.hp, m.nx, m.nx⟩ := id rfl
/-! lists -/
theorem s_drop0 (hn : n = 0) (k : AV → R) : dropA n a k = k a := by subst hn; rfl
theorem s_dropS (hn : n ≠ 0) (k : AV → R) : dropA n (.cons h a) k = dropA (n - 1) a k := by
  cases n with
  | zero => exact absurd rfl hn
  | succ n => rfl
theorem s_take0 (hn : n = 0) (k : AV → R) : takeA n a k = k .nl := by subst hn; rfl
theorem s_takeS (hn : n ≠ 0) (k : AV → R) : takeA n (.cons h a) k = takeA (n - 1) a fun r => k (.cons h r) := by
  cases n with
  | zero => exact absurd rfl hn
  | succ n => rfl
theorem s_over0 (k : AV → R) : overA .nl a k = k a := id rfl
theorem s_overS (k : AV → R) : overA (.cons x y) (.cons h a) k = overA y a fun r => k (.cons x r) := id rfl
theorem s_spl0 (hn : n = 0) (k : AV → R) : spliceA x n a k = overA x a k := by subst hn; rfl
theorem s_splS (hn : n ≠ 0) (k : AV → R) : spliceA x n (.cons h a) k = spliceA x (n - 1) a fun r => k (.cons h r) := by
  cases n with
  | zero => exact absurd rfl hn
  | succ n => rfl
theorem s_len0 : lenA .nl = 0 := id rfl
theorem s_lenS : lenA (.cons h a) = lenA a + 1 := id rfl
theorem s_app0 : appA .nl a = a := id rfl
theorem s_appS : appA (.cons h x) a = .cons h (appA x a) := id rfl
theorem s_rep0 : repA 0 a = .nl := id rfl
theorem s_repS : repA (n + 1) a = appA a (repA n a) := id rfl
theorem s_fill0 (z : AV) (k : AV → R) : fillA [] z k = k z := id rfl
theorem s_fillS (o n : Nat) (x : AV) (ps : List (Nat × Nat × AV)) (z : AV) (k : AV → R) : fillA ((o, n, x) :: ps) z k = cellsK x fun xs => br (Nat.beq (lenA xs) n) (spliceA xs o z fun cs' => fillA ps cs' k) none := id rfl
theorem s_part1 (k : AV → R) : partC .one a o k = dropA o a fun l => avCons l fun h _ => k h := id rfl
theorem s_partn (k : AV → R) : partC (.many n) a o k = dropA o a fun l => takeA n l fun r => k (.agg r) := id rfl
theorem s_below (j : IntKind) (n l : Nat) (k : Nat → R) : natBelow (.int j (.ofNat n)) l k = br (Nat.blt n l) (k n) none := id rfl
/-! numbers -/
theorem s_beq (a b : Nat) : Nat.beq a b = decide (a = b) := Bool.eq_iff_iff.2 (by rw [decide_eq_true_iff]; exact ⟨Nat.eq_of_beq_eq_true, fun h => by subst h; exact Nat.beq_refl a⟩)
theorem s_ble (a b : Nat) : Nat.ble a b = decide (a ≤ b) := Bool.eq_iff_iff.2 (by rw [decide_eq_true_iff]; exact ⟨nble, Nat.ble_eq_true_of_le⟩)
theorem s_blt (a b : Nat) : Nat.blt a b = decide (a < b) := s_ble _ _
theorem s_notB (b : Bool) : notB b = !b := by cases b <;> rfl
theorem s_not (b : Bool) (k : AV → R) : unC .not (.bool b) k = k (.bool (!b)) := by cases b <;> rfl
theorem s_eql (j : IntKind) (a b : Nat) (k : AV → R) : binC E .eql t (.int j (.ofNat a)) (.int j (.ofNat b)) k = k (.bool (decide (a = b))) := by
  show br (decide (j = j)) (k (.bool (Nat.beq a b))) none = _
  rw [decide_eq_true rfl, s_beq]; rfl
theorem s_neq (j : IntKind) (a b : Nat) (k : AV → R) : binC E .neq t (.int j (.ofNat a)) (.int j (.ofNat b)) k = k (.bool (!decide (a = b))) := by
  show br (decide (j = j)) (k (.bool (notB (Nat.beq a b)))) none = _
  rw [decide_eq_true rfl, s_beq, s_notB]; rfl
theorem s_lss (j : IntKind) (a b : Nat) (k : AV → R) : binC E .lss t (.int j (.ofNat a)) (.int j (.ofNat b)) k = k (.bool (decide (a < b))) := by
  show br (decide (j = j)) (k (.bool (Nat.blt a b))) none = _
  rw [decide_eq_true rfl, s_blt]; rfl
theorem s_leq (j : IntKind) (a b : Nat) (k : AV → R) : binC E .leq t (.int j (.ofNat a)) (.int j (.ofNat b)) k = k (.bool (decide (a ≤ b))) := by
  show br (decide (j = j)) (k (.bool (Nat.ble a b))) none = _
  rw [decide_eq_true rfl, s_ble]; rfl
theorem s_gtr (j : IntKind) (a b : Nat) (k : AV → R) : binC E .gtr t (.int j (.ofNat a)) (.int j (.ofNat b)) k = k (.bool (decide (b < a))) := by
  show br (decide (j = j)) (k (.bool (Nat.blt b a))) none = _
  rw [decide_eq_true rfl, s_blt]; rfl
theorem s_geq (j : IntKind) (a b : Nat) (k : AV → R) : binC E .geq t (.int j (.ofNat a)) (.int j (.ofNat b)) k = k (.bool (decide (b ≤ a))) := by
  show br (decide (j = j)) (k (.bool (Nat.ble b a))) none = _
  rw [decide_eq_true rfl, s_ble]; rfl
theorem s_add (a b : Nat) (h : a + b < 9223372036854775808) (k : AV → R) : binC E .add t (.int .i64 (.ofNat a)) (.int .i64 (.ofNat b)) k = k (.int .i64 (.ofNat (a + b))) := by
  show br (Nat.blt (Nat.add a b) 9223372036854775808) (k (.int .i64 (.ofNat (Nat.add a b)))) _ = _
  rw [s_blt, show Nat.add a b = a + b from rfl, decide_eq_true h]; rfl
theorem s_streq (x y : List UInt8) (k : AV → R) : binC E .eql t (.str x) (.str y) k = k (.bool (beqBytes x y)) := id rfl
theorem s_strne (x y : List UInt8) (k : AV → R) : binC E .neq t (.str x) (.str y) k = k (.bool (!beqBytes x y)) := by rw [← s_notB]; rfl
theorem s_booleq (h : ty E t = some .bool) (x y : Bool) (k : AV → R) : binC E .eql t (.bool x) (.bool y) k = k (.bool (x == y)) := by
  show eqC E t (.bool x) (.bool y) _ = _
  unfold eqC
  rw [h]
  cases x <;> cases y <;> rfl
theorem s_boolne (h : ty E t = some .bool) (x y : Bool) (k : AV → R) : binC E .neq t (.bool x) (.bool y) k = k (.bool (x != y)) := by
  show eqC E t (.bool x) (.bool y) _ = _
  unfold eqC
  rw [h]
  cases x <;> cases y <;> rfl
/-- what a comparison of two numbers of 64 bits with a point says -/
def fcmp (op : BinOp) (a b : Nat) : Bool := match pureV (Op.floatCmp op .f64 a b) with | some (.bool b) => b | _ => false
theorem s_flteq (a b : Nat) (k : AV → R) : binC E .eql t (.oth (.float .f64 a)) (.oth (.float .f64 b)) k = k (.bool (fcmp .eql a b)) := id rfl
theorem s_fltne (a b : Nat) (k : AV → R) : binC E .neq t (.oth (.float .f64 a)) (.oth (.float .f64 b)) k = k (.bool (fcmp .neq a b)) := id rfl
theorem s_add0 (a : Nat) : a + 0 = a := id rfl
theorem br_t {α : Type} {t e : α} : br true t e = t := id rfl
theorem br_f {α : Type} {t e : α} : br false t e = e := id rfl
theorem s_nadd (a b : Nat) : Nat.add a b = a + b := id rfl
theorem s_nmul (a b : Nat) : Nat.mul a b = a * b := id rfl
theorem s_nsucc (a : Nat) : Nat.succ a = a + 1 := id rfl
theorem s_tget (tr : Tr Bk) (x : Option Bk) (k : Nat) : (tr.set x k).get k = x := Tr.get_set_same tr x k
theorem s_tget_ne (tr : Tr Bk) (x : Option Bk) {k j : Nat} (h : j ≠ k) : (tr.set x k).get j = tr.get j := Tr.get_set_ne tr x h
theorem s_mzh : mz.hp = .e := id rfl
theorem s_mzn : mz.nx = 0 := id rfl
theorem s_mzl : mz.lo = 0 := id rfl
theorem LF_eq : LF = 100000 := id rfl
/-! drawn regions -/
theorem s_did (c : Bool) (m' : Mem) (k : Mem → Did → R) : didK m c m' k = br (decide (m'.lo < m.nx)) (br (decide (m.lo ≤ m'.lo)) (k ⟨m'.hp, m'.nx, m.lo⟩ (.heavy (some m'.lo) c)) (k m' (.heavy (some m'.lo) c))) (k ⟨m'.hp, m'.nx, m.lo⟩ (.heavy none c)) := by
  rw [← s_blt, ← s_ble]; rfl
theorem s_all0 {α : Type} (p : α → Bool) : allL p [] = true := id rfl
theorem s_allS {α : Type} (p : α → Bool) (x : α) (l : List α) : allL p (x :: l) = br (p x) (allL p l) false := id rfl
theorem s_nth0 {α : Type} (x : α) (l : List α) : nthL (x :: l) 0 = some x := id rfl
theorem s_nthS {α : Type} (x : α) (l : List α) (n : Nat) : nthL (x :: l) (n + 1) = nthL l n := id rfl
theorem s_agreeAt (ds : List Did) (i j : Nat) : agreeAt ds i j = orec false (fun a => orec false (fun b => agree a b) (nthL ds j)) (nthL ds i) := id rfl
theorem s_orec {α β : Type} (d : β) (f : α → β) (x : α) : orec d f (some x) = f x := id rfl
theorem s_orec0 {α β : Type} (d : β) (f : α → β) : orec d f none = d := id rfl
theorem s_ag1 (b : Did) : agree .none b = true := id rfl
theorem s_ag2 (n : Nat) : agree (.read n) .none = true := id rfl
theorem s_ag3 (n k : Nat) : agree (.read n) (.read k) = true := id rfl
theorem s_ag4 (n : Nat) (c : Bool) : agree (.read n) (.heavy none c) = true := id rfl
theorem s_ag5 (n t : Nat) (c : Bool) : agree (.read n) (.heavy (some t) c) = br c false (!decide (t = n)) := by rw [← s_beq, ← s_notB]; rfl
theorem s_ag6 (w : Option Nat) (c : Bool) : agree (.heavy w c) .none = true := id rfl
theorem s_ag7 (n : Nat) (c : Bool) : agree (.heavy none c) (.read n) = true := id rfl
theorem s_ag8 (n t : Nat) (c : Bool) : agree (.heavy (some t) c) (.read n) = br c false (!decide (t = n)) := by rw [← s_beq, ← s_notB]; rfl
theorem s_ag9 (c c' : Bool) : agree (.heavy none c) (.heavy none c') = true := id rfl
theorem s_marks0 (k : Mem → R) : marks [] m k = k m := id rfl
end
/-- the two ways -/
theorem br_ways {c : Bool} {x y r : R} (ht : c = true → x = r) (hf : c = false → y = r) : br c x y = r := by
  cases c with
  | true => exact ht rfl
  | false => exact hf rfl
@[congr] theorem br_cong {α : Type} {c c' : Bool} {x y : α} (h : c = c') : br c x y = br c' x y := by rw [h]
section
variable {a a' x x' y y' : AV} {m m' : Mem} {n n' o o' b b' l l' : Nat} {E : Env} {tm tm' : TM} {ih : Fs} {df df' : List Nat} {rr : Option Nat}
@[congr] theorem g_avInt {k : IntKind → Int → R} (h : a = a') : avInt a k = avInt a' k := by rw [h]
@[congr] theorem g_avBool {k : Bool → R} (h : a = a') : avBool a k = avBool a' k := by rw [h]
@[congr] theorem g_avTest {t : Bool} {y n : R} (h : a = a') : avTest a t y n = avTest a' t y n := by rw [h]
@[congr] theorem g_avPtr {k : Nat → Nat → R} (h : a = a') : avPtr a k = avPtr a' k := by rw [h]
@[congr] theorem g_avSlc {k : Nat → Nat → Nat → Nat → R} {z : Nat → Nat → R} (h : a = a') : avSlc a k z = avSlc a' k z := by rw [h]
@[congr] theorem g_avAgg {k : AV → R} (h : a = a') : avAgg a k = avAgg a' k := by rw [h]
@[congr] theorem g_avTup {k : AV → R} (h : a = a') : avTup a k = avTup a' k := by rw [h]
@[congr] theorem g_avStr {k : List UInt8 → R} (h : a = a') : avStr a k = avStr a' k := by rw [h]
@[congr] theorem g_avFn {k : FuncId → AV → R} {z : Nat → R} (h : a = a') : avFn a k z = avFn a' k z := by rw [h]
@[congr] theorem g_avMap {k : Nat → R} {z : R} (h : a = a') : avMap a k z = avMap a' k z := by rw [h]
@[congr] theorem g_avCons {k : AV → AV → R} (h : a = a') : avCons a k = avCons a' k := by rw [h]
@[congr] theorem g_cellsK {k : AV → R} (h : a = a') : cellsK a k = cellsK a' k := by rw [h]
@[congr] theorem g_dropA {k : AV → R} (hn : n = n') (h : a = a') : dropA n a k = dropA n' a' k := by rw [hn, h]
@[congr] theorem g_takeA {k : AV → R} (hn : n = n') (h : a = a') : takeA n a k = takeA n' a' k := by rw [hn, h]
@[congr] theorem g_overA {k : AV → R} (hx : x = x') (h : a = a') : overA x a k = overA x' a' k := by rw [hx, h]
@[congr] theorem g_spliceA {k : AV → R} (hx : x = x') (hn : n = n') (h : a = a') : spliceA x n a k = spliceA x' n' a' k := by rw [hx, hn, h]
@[congr] theorem g_fillA {p p' : List (Nat × Nat × AV)} {k : AV → R} (hp : p = p') (h : a = a') : fillA p a k = fillA p' a' k := by rw [hp, h]
@[congr] theorem g_rdx {v v' : Option Bk} {k : AV → R} (h : v = v') : rdx v k = rdx v' k := by rw [h]
@[congr] theorem g_wrx {v v' : Option Bk} {k : AV → Option Nat → R} (h : v = v') : wrx v k = wrx v' k := by rw [h]
@[congr] theorem g_rd1 {k : AV → R} (hm : m = m') (hb : b = b') (ho : o = o') : rd1 m b o k = rd1 m' b' o' k := by rw [hm, hb, ho]
@[congr] theorem g_rd {k : AV → R} (hm : m = m') (hb : b = b') (ho : o = o') (hn : n = n') : rd m b o n k = rd m' b' o' n' k := by rw [hm, hb, ho, hn]
@[congr] theorem g_wr {k : Mem → R} (hm : m = m') (hb : b = b') (ho : o = o') (h : a = a') : wr m b o a k = wr m' b' o' a' k := by rw [hm, hb, ho, h]
@[congr] theorem g_setLo {hp hp' : Tr Bk} {k : Mem → R} (hm : m = m') (hb : b = b') (h : hp = hp') : setLo m b hp k = setLo m' b' hp' k := by rw [hm, hb, h]
@[congr] theorem g_new {v v' : Bk} {k : Mem → R} (hm : m = m') (h : v = v') : new m v k = new m' v' k := by rw [hm, h]
@[congr] theorem g_loadC {s : Shape} {k : AV → R} (hm : m = m') (h : a = a') : loadC s m a k = loadC s m' a' k := by rw [hm, h]
@[congr] theorem g_storeC {k : Mem → R} (hm : m = m') (h : a = a') (hx : x = x') : storeC n m a x k = storeC n m' a' x' k := by rw [hm, h, hx]
@[congr] theorem g_partC {s : Shape} {k : AV → R} (h : a = a') (ho : o = o') : partC s a o k = partC s a' o' k := by rw [h, ho]
@[congr] theorem g_binC {op : BinOp} {t : TypeId} {k : AV → R} (hx : x = x') (hy : y = y') : binC E op t x y k = binC E op t x' y' k := by rw [hx, hy]
@[congr] theorem g_unC {op : UnOp} {k : AV → R} (hx : x = x') : unC op x k = unC op x' k := by rw [hx]
@[congr] theorem g_natBelow {k : Nat → R} (h : a = a') (hn : n = n') : natBelow a n k = natBelow a' n' k := by rw [h, hn]
@[congr] theorem g_minMax {bi : Builtin} {k : AV → R} (hx : x = x') (hy : y = y') : minMax bi x y k = minMax bi x' y' k := by rw [hx, hy]
@[congr] theorem g_slcStr {s s' : List UInt8} {lo lo' hi hi' : Option AV} {k : AV → R} (hs : s = s') (hl : lo = lo') (hh : hi = hi') : slcStr s lo hi k = slcStr s' lo' hi' k := by rw [hs, hl, hh]
@[congr] theorem g_slcSlc {c c' : Nat} {lo lo' hi hi' : Option AV} {k : AV → R} (hm : m = m') (hb : b = b') (ho : o = o') (hl' : l = l') (hc : c = c') (hl : lo = lo') (hh : hi = hi') : slcSlc m n b o l c lo hi k = slcSlc m' n b' o' l' c' lo' hi' k := by rw [hm, hb, ho, hl', hc, hl, hh]
@[congr] theorem g_slcNil {lo lo' hi hi' : Option AV} {k : AV → R} (hl : lo = lo') (hh : hi = hi') (h1 : n = n') (h2 : o = o') : slcNil lo hi n o k = slcNil lo' hi' n' o' k := by rw [hl, hh, h1, h2]
@[congr] theorem g_slcArr {lo lo' hi hi' : Option AV} {k : AV → R} (hb : b = b') (ho : o = o') (hl : lo = lo') (hh : hi = hi') : slcArr n l b o lo hi k = slcArr n l b' o' lo' hi' k := by rw [hb, ho, hl, hh]
@[congr] theorem g_optN {v v' : Option AV} {k : Nat → R} (hv : v = v') (h1 : n = n') (h2 : o = o') : optN v n o k = optN v' n' o' k := by rw [hv, h1, h2]
@[congr] theorem g_capKnown {k : R} {u : Nat → R} (hm : m = m') (hb : b = b') : capKnown m b k u = capKnown m' b' k u := by rw [hm, hb]
@[congr] theorem g_app {k : AV → Mem → R} (hm : m = m') (hx : x = x') (hy : y = y') : app m n x y k = app m' n x' y' k := by rw [hm, hx, hy]
@[congr] theorem g_copyC {k : AV → Mem → R} (hm : m = m') (hx : x = x') (hy : y = y') : copyC m n x y k = copyC m' n x' y' k := by rw [hm, hx, hy]
@[congr] theorem g_elems {k : AV → R} (hm : m = m') (hn : n = n') (hx : x = x') : elems m l n x k = elems m' l n' x' k := by rw [hm, hn, hx]
@[congr] theorem g_lenOf {k : Nat → R} (hx : x = x') : lenOf x k = lenOf x' k := by rw [hx]
@[congr] theorem g_orec {α β : Type} {d : β} {f : α → β} {v v' : Option α} (h : v = v') : orec d f v = orec d f v' := by rw [h]
@[congr] theorem g_toBytes {k : List UInt8 → R} (h : a = a') : toBytes a k = toBytes a' k := by rw [h]
@[congr] theorem g_didK {c : Bool} {k : Mem → Did → R} (hm : m = m') {p p' : Mem} (hp : p = p') : didK m c p k = didK m' c p' k := by rw [hm, hp]
@[congr] theorem g_lookCC {dk : TypeDesc} {z : AV} {ok : Bool} {k : AV → R} (hm : m = m') (hx : x = x') (hy : y = y') : lookCC dk z ok m x y k = lookCC dk z ok m' x' y' k := by rw [hm, hx, hy]
@[congr] theorem g_mapUpdC {dk : TypeDesc} {k : Mem → R} (hm : m = m') (hx : x = x') (hy : y = y') (h : a = a') : mapUpdC dk m x y a k = mapUpdC dk m' x' y' a' k := by rw [hm, hx, hy, h]
@[congr] theorem g_call {f : FuncId} {k : AV → Mem → R} (h : a = a') (hm : m = m') : Fs.call ih f a m k = Fs.call ih f a' m' k := by rw [h, hm]
@[congr] theorem g_round {k : AV → Mem → R} (hn : n = n') (h : a = a') (hm : m = m') : Fs.round ih n a m k = Fs.round ih n' a' m' k := by rw [hn, h, hm]
@[congr] theorem g_clf {c : Cl} {K : KT} (ht : tm = tm') (hd : df = df') (hm : m = m') : runC c ih rr tm df m K = runC c ih rr tm' df' m' K := by rw [ht, hd, hm]
@[congr] theorem g_opf {c : OpC} {K : TM → Mem → R} (ht : tm = tm') (hm : m = m') : runO c ih tm m K = runO c ih tm' m' K := by rw [ht, hm]
@[congr] theorem g_dsf {c : DsC} {K : TM → Mem → List Did → R} (ht : tm = tm') (hm : m = m') : runD c ih tm m K = runD c ih tm' m' K := by rw [ht, hm]
@[congr] theorem g_seqK {c : Cl} {K : KT} {e e' : XE} (he : e = e') (ht : tm = tm') (hd : df = df') (hm : m = m') : seqK c ih rr K e tm df m = seqK c ih rr K e' tm' df' m' := by rw [he, ht, hd, hm]
@[congr] theorem g_blkK {K : KT} {e e' : XE} (he : e = e') (ht : tm = tm') (hd : df = df') (hm : m = m') : blkK n K e tm df m = blkK n K e' tm' df' m' := by rw [he, ht, hd, hm]
@[congr] theorem g_scopeK {K : KT} {e e' : XE} (he : e = e') (ht : tm = tm') (hd : df = df') (hm : m = m') : scopeK K e tm df m = scopeK K e' tm' df' m' := by rw [he, ht, hd, hm]
@[congr] theorem g_loopK {c : Cl} {K : KT} {e e' : XE} (hn : n = n') (he : e = e') (ht : tm = tm') (hd : df = df') (hm : m = m') : loopK c ih rr K n e tm df m = loopK c ih rr K n' e' tm' df' m' := by rw [hn, he, ht, hd, hm]
@[congr] theorem g_loopN {c : Cl} {K : KT} (hn : n = n') (ht : tm = tm') (hd : df = df') (hm : m = m') : loopN c ih rr K n tm df m = loopN c ih rr K n' tm' df' m' := by rw [hn, ht, hd, hm]
@[congr] theorem g_retK {rs : List ResultVar} {k : AV → Mem → R} {e e' : XE} (he : e = e') (ht : tm = tm') (hd : df = df') (hm : m = m') : retK E n rs k e tm df m = retK E n rs k e' tm' df' m' := by rw [he, ht, hd, hm]
end
end Go.Rx
