/-
  Rules for slices: append, and blocks whose room is not known.
-/
import Derived.Test.YtopcdmlmokhjnaaGreatDoorRxNum
set_option linter.unusedVariables false
namespace Go.Rx
section
variable {E : Env} {t n i j : Nat} {m : Mem} {b o l c need : Nat} {a h x y : AV}
theorem s_lenSlc (k : Nat → R) : lenOf (.slc b o l c) k = k l := id rfl
theorem s_lenNil (k : Nat → R) : lenOf (.oth (.slice none l c)) k = k l := id rfl
theorem s_lenStr (s : List UInt8) (k : Nat → R) : lenOf (.str s) k = k (lenL s) := id rfl
theorem s_elSlc (k : AV → R) : elems m i n (.slc b o l c) k = br (decide (n * i = 0)) (k .nl) (rd m b o (n * i) k) := by
  rw [← s_beq]; rfl
theorem s_elNil (k : AV → R) : elems m i n (.oth (.slice none l c)) k = br (decide (l = 0)) (k .nl) none := by
  rw [← s_beq]; rfl
theorem s_isNl : isNl .nl = true := id rfl
theorem s_isNlC : isNl (.cons h a) = false := id rfl
/-- where an append finds no room -/
noncomputable def growK (m : Mem) (size : Nat) (old xs : AV) (need : Nat) (k : AV → Mem → R) : R := grow m size old xs need k
theorem s_grow (k : AV → Mem → R) : growK m n x y need k = br (decide (need ≤ 1000000)) (new m (.cells (appA x y) (some n)) fun m' => k (.slc m.nx 0 need need) m') none := by
  rw [← s_ble]; rfl
theorem s_appNil (k : AV → Mem → R) : app m n (.oth (.slice none 0 0)) x k = lenOf x fun c => elems m n c x fun xs => br (decide (c = 0)) (k (.oth (.slice none 0 0)) m) (growK m n .nl xs c k) := by
  have e : (fun c => elems m n c x fun xs => br (decide (c = 0)) (k (.oth (.slice none 0 0)) m) (growK m n .nl xs c k)) = (fun c => elems m n c x fun xs => br (Nat.beq c 0) (k (.oth (.slice none 0 0)) m) (growK m n .nl xs c k)) := by
    funext c; rw [s_beq]
  rw [e]; rfl
noncomputable def ckx (x : Option Bk) (k : R) (u : Nat → R) : R := orec none (fun x => match x with | Bk.cells _ ext => orec k u ext | _ => none) x
theorem s_ckx0 (vs : AV) (k : R) (u : Nat → R) : ckx (some (.cells vs none)) k u = k := id rfl
theorem s_ckx1 (vs : AV) (e : Nat) (k : R) (u : Nat → R) : ckx (some (.cells vs (some e))) k u = u e := id rfl
theorem s_cap (k : R) (u : Nat → R) : capKnown m b k u = ckx (m.hp.get b) k u := id rfl
theorem s_kill (k : Mem → R) : kill m b k = setLo m b (m.hp.set none b) k := id rfl
theorem s_appSlc (k : AV → Mem → R) : app m n (.slc b o l c) x k = lenOf x fun cnt => elems m n cnt x fun xs => br (decide (l + cnt ≤ c))
    (br (isNl xs) (k (.slc b o (l + cnt) c) m) (wr m b (o + l * n) xs fun m' => k (.slc b o (l + cnt) c) m'))
    (elems m n l (.slc b o l c) fun old => ckx (m.hp.get b) (growK m n old xs (l + cnt) k) fun es => br (decide (es = n)) (kill m b fun m' => growK m' n old xs (l + cnt) k) none) := by
  have e : (fun cnt => elems m n cnt x fun xs => br (decide (l + cnt ≤ c))
    (br (isNl xs) (k (.slc b o (l + cnt) c) m) (wr m b (o + l * n) xs fun m' => k (.slc b o (l + cnt) c) m'))
    (elems m n l (.slc b o l c) fun old => ckx (m.hp.get b) (growK m n old xs (l + cnt) k) fun es => br (decide (es = n)) (kill m b fun m' => growK m' n old xs (l + cnt) k) none)) = (fun cnt => elems m n cnt x fun xs => br (Nat.ble (l + cnt) c)
    (br (isNl xs) (k (.slc b o (l + cnt) c) m) (wr m b (o + l * n) xs fun m' => k (.slc b o (l + cnt) c) m'))
    (elems m n l (.slc b o l c) fun old => ckx (m.hp.get b) (growK m n old xs (l + cnt) k) fun es => br (Nat.beq es n) (kill m b fun m' => growK m' n old xs (l + cnt) k) none)) := by
    funext cnt
    rw [s_ble]
    congr 1; funext xs; congr 2; funext old; congr 1; funext es; rw [s_beq]
  rw [e]; rfl
end
section
variable {a a' x x' y y' : AV} {m m' : Mem} {n n' l l' : Nat}
@[congr] theorem g_growK {k : AV → Mem → R} (hm : m = m') (hx : x = x') (hy : y = y') (hn : n = n') : growK m l x y n k = growK m' l x' y' n' k := by rw [hm, hx, hy, hn]
@[congr] theorem g_ckx {v v' : Option Bk} {k : R} {u : Nat → R} (h : v = v') : ckx v k u = ckx v' k u := by rw [h]
@[congr] theorem g_kill {k : Mem → R} (hm : m = m') (hb : n = n') : kill m n k = kill m' n' k := by rw [hm, hb]
end
end Go.Rx
