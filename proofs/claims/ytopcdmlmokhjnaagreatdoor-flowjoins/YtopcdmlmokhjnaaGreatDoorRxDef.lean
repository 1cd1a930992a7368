/-
  A deterministic executor of the model's code over an abstract heap: the definitions. Nothing is claimed here; RxSound says what an answer of it is worth.
  It is written for the kernel: code is compiled to closures once, all is in continuation-passing style, the temporaries lie in a fixed tree.
-/
import Derived.RangeFuncIn
import Derived.KernelRfl
namespace Go.Rx
noncomputable section

/-! ### Small eliminators -/
def lrec {α β : Type} (z : β) (f : α → List α → β → β) (l : List α) : β := List.rec (motive := fun _ => β) z f l
def lcs {α β : Type} (z : β) (f : α → List α → β) (l : List α) : β := List.rec (motive := fun _ => β) z (fun h t _ => f h t) l
def nrec {β : Type} (z : β) (f : Nat → β → β) (n : Nat) : β := Nat.rec (motive := fun _ => β) z f n
def orec {α β : Type} (d : β) (f : α → β) (o : Option α) : β := Option.rec (motive := fun _ => β) d f o
def br {α : Type} (b : Bool) (t e : α) : α := Bool.rec e t b
def notB (b : Bool) : Bool := br b false true

/-- A binary trie over the natural numbers. -/
inductive Tr (α : Type) where
  | e : Tr α
  | n (l : Tr α) (v : Option α) (r : Tr α) : Tr α
namespace Tr
variable {α : Type}
def get (t : Tr α) : Nat → Option α :=
  Tr.rec (motive := fun _ => Nat → Option α) (fun _ => none)
    (fun _ v _ gl gr k => br (Nat.beq k 0) v (br (Nat.beq (Nat.land k 1) 0) (gl (Nat.sub (Nat.shiftRight k 1) 1)) (gr (Nat.shiftRight k 1)))) t
def setF (x : Option α) (f : Nat) : Tr α → Nat → Tr α :=
  nrec (β := Tr α → Nat → Tr α) (fun t _ => t)
    (fun _ ih t k =>
      Tr.rec (motive := fun _ => Tr α)
        (br (Nat.beq k 0) (.n .e x .e) (br (Nat.beq (Nat.land k 1) 0) (.n (ih .e (Nat.sub (Nat.shiftRight k 1) 1)) none .e) (.n .e none (ih .e (Nat.shiftRight k 1)))))
        (fun l v r _ _ => br (Nat.beq k 0) (.n l x r) (br (Nat.beq (Nat.land k 1) 0) (.n (ih l (Nat.sub (Nat.shiftRight k 1) 1)) v r) (.n l v (ih r (Nat.shiftRight k 1))))) t) f
def set (t : Tr α) (x : Option α) (k : Nat) : Tr α := setF x (Nat.succ k) t k
def odds (l : List α) : List α × List α := lrec (β := List α × List α) ([], []) (fun h _ ih => (h :: ih.2, ih.1)) l
/-- the list's elements by their places, to a depth -/
def ofList (d : Nat) : List α → Tr α :=
  nrec (β := List α → Tr α) (fun _ => .e)
    (fun _ ih l => lcs (β := Tr α) .e (fun h t => .n (ih (odds t).2) (some h) (ih (odds t).1)) l) d
end Tr

/-! ### Abstract values -/
inductive AV where
  | int (k : IntKind) (n : Int)
  | bool (b : Bool)
  | ptr (b o : Nat)
  | slc (b o len cap : Nat)
  | agg (cs : AV)
  | str (s : List UInt8)
  | fn (f : FuncId) (caps : AV)
  | yld (l : Nat)
  | map (r : Nat)
  | tup (cs : AV)
  | oth (v : Value)
  | nl
  | cons (h t : AV)

def undefA : AV := .oth undef

structure O8 (α : Type) where
  a : α
  b : α
  c : α
  d : α
  e : α
  f : α
  g : α
  h : α
abbrev TM := O8 (O8 (O8 AV))
def fill8 {α : Type} (x : α) : O8 α := ⟨x, x, x, x, x, x, x, x⟩
def tm0 : TM := fill8 (fill8 (fill8 undefA))

inductive Bk where
  /-- cells; where their number may be greater: how many an element has -/
  | cells (vs : AV) (ext : Option Nat)
  | map (es : List (AV × AV))
  | loop (st : LoopState) (pending : Option Code) (tm : TM) (nt : Nat) (params : List Tmp) (assign body : Code) (defs : Nat)
  | defd

structure Mem where
  hp : Tr Bk
  nx : Nat
  lo : Nat

inductive VM where
  | mk (v : AV) (m : Mem)
abbrev R := Option VM

structure Env where
  types : Tr TypeInfo
  funcs : Tr Func
  /-- functions without a body that are known: 0 float64bits, 1 float64frombits -/
  ext : FuncId → Option Nat
  /-- array types whose '==' is known to look at no interface -/
  plain : TypeId → Bool
  /-- how many variables of packages are known -/
  ng : Nat

inductive XE where
  | normal
  | exit (id : Nat)
  | goto (l : Nat)
  | ret

structure Fs where
  call : FuncId → AV → Mem → (AV → Mem → R) → R
  round : Nat → AV → Mem → (AV → Mem → R) → R

/-! ### Eliminators of values -/
def avInt (v : AV) (k : IntKind → Int → R) : R :=
  AV.rec (motive := fun _ => R) k (fun _ => none) (fun _ _ => none) (fun _ _ _ _ => none) (fun _ _ => none) (fun _ => none) (fun _ _ _ => none) (fun _ => none) (fun _ => none) (fun _ _ => none) (fun _ => none) none (fun _ _ _ _ => none) v
def avBool (v : AV) (k : Bool → R) : R :=
  AV.rec (motive := fun _ => R) (fun _ _ => none) k (fun _ _ => none) (fun _ _ _ _ => none) (fun _ _ => none) (fun _ => none) (fun _ _ _ => none) (fun _ => none) (fun _ => none) (fun _ _ => none) (fun _ => none) none (fun _ _ _ _ => none) v
/-- a test that may be none -/
def avTest (v : AV) (b : Bool) (y n : R) : R :=
  AV.rec (motive := fun _ => R) (fun _ _ => n) (fun b' => br b' (br b y n) (br b n y)) (fun _ _ => n) (fun _ _ _ _ => n) (fun _ _ => n) (fun _ => n) (fun _ _ _ => n) (fun _ => n) (fun _ => n) (fun _ _ => n) (fun v => match v with | .bool _ => none | _ => n) n (fun _ _ _ _ => n) v
def avPtr (v : AV) (k : Nat → Nat → R) : R :=
  AV.rec (motive := fun _ => R) (fun _ _ => none) (fun _ => none) k (fun _ _ _ _ => none) (fun _ _ => none) (fun _ => none) (fun _ _ _ => none) (fun _ => none) (fun _ => none) (fun _ _ => none) (fun _ => none) none (fun _ _ _ _ => none) v
/-- a slice: `k` where it lies somewhere, `z` where it is nil (its length and capacity) -/
def avSlc (v : AV) (k : Nat → Nat → Nat → Nat → R) (z : Nat → Nat → R) : R :=
  AV.rec (motive := fun _ => R) (fun _ _ => none) (fun _ => none) (fun _ _ => none) k (fun _ _ => none) (fun _ => none) (fun _ _ _ => none) (fun _ => none) (fun _ => none) (fun _ _ => none)
    (fun v => match v with | .slice none l c => z l c | _ => none) none (fun _ _ _ _ => none) v
def avAgg (v : AV) (k : AV → R) : R :=
  AV.rec (motive := fun _ => R) (fun _ _ => none) (fun _ => none) (fun _ _ => none) (fun _ _ _ _ => none) (fun cs _ => k cs) (fun _ => none) (fun _ _ _ => none) (fun _ => none) (fun _ => none) (fun _ _ => none)
    (fun _ => none) none (fun _ _ _ _ => none) v
def avTup (v : AV) (k : AV → R) : R :=
  AV.rec (motive := fun _ => R) (fun _ _ => none) (fun _ => none) (fun _ _ => none) (fun _ _ _ _ => none) (fun _ _ => none) (fun _ => none) (fun _ _ _ => none) (fun _ => none) (fun _ => none) (fun cs _ => k cs)
    (fun _ => none) none (fun _ _ _ _ => none) v
def avStr (v : AV) (k : List UInt8 → R) : R :=
  AV.rec (motive := fun _ => R) (fun _ _ => none) (fun _ => none) (fun _ _ => none) (fun _ _ _ _ => none) (fun _ _ => none) k (fun _ _ _ => none) (fun _ => none) (fun _ => none) (fun _ _ => none) (fun _ => none) none (fun _ _ _ _ => none) v
/-- a string, or a slice -/
def avStrSlc (v : AV) (s : List UInt8 → R) (k : Nat → Nat → Nat → Nat → R) (z : Nat → Nat → R) : R :=
  AV.rec (motive := fun _ => R) (fun _ _ => none) (fun _ => none) (fun _ _ => none) k (fun _ _ => none) s (fun _ _ _ => none) (fun _ => none) (fun _ => none) (fun _ _ => none)
    (fun v => match v with | .slice none l c => z l c | _ => none) none (fun _ _ _ _ => none) v
def avFn (v : AV) (k : FuncId → AV → R) (y : Nat → R) : R :=
  AV.rec (motive := fun _ => R) (fun _ _ => none) (fun _ => none) (fun _ _ => none) (fun _ _ _ _ => none) (fun _ _ => none) (fun _ => none) (fun f c _ => k f c) y (fun _ => none) (fun _ _ => none) (fun _ => none) none (fun _ _ _ _ => none) v
def avMap (v : AV) (k : Nat → R) (z : R) : R :=
  AV.rec (motive := fun _ => R) (fun _ _ => none) (fun _ => none) (fun _ _ => none) (fun _ _ _ _ => none) (fun _ _ => none) (fun _ => none) (fun _ _ _ => none) (fun _ => none) k (fun _ _ => none)
    (fun v => match v with | .map none => z | _ => none) none (fun _ _ _ _ => none) v
def avCons (v : AV) (k : AV → AV → R) : R :=
  AV.rec (motive := fun _ => R) (fun _ _ => none) (fun _ => none) (fun _ _ => none) (fun _ _ _ _ => none) (fun _ _ => none) (fun _ => none) (fun _ _ _ => none) (fun _ => none) (fun _ => none) (fun _ _ => none) (fun _ => none) none (fun h t _ _ => k h t) v
def avList (v : AV) (z : R) (k : AV → AV → R) : R :=
  AV.rec (motive := fun _ => R) (fun _ _ => none) (fun _ => none) (fun _ _ => none) (fun _ _ _ _ => none) (fun _ _ => none) (fun _ => none) (fun _ _ _ => none) (fun _ => none) (fun _ => none) (fun _ _ => none) (fun _ => none) z (fun h t _ _ => k h t) v
/-- is it a list's end? -/
def isNl (v : AV) : Bool :=
  AV.rec (motive := fun _ => Bool) (fun _ _ => false) (fun _ => false) (fun _ _ => false) (fun _ _ _ _ => false) (fun _ _ => false) (fun _ => false) (fun _ _ _ => false) (fun _ => false) (fun _ => false) (fun _ _ => false) (fun _ => false) true (fun _ _ _ _ => false) v
/-- the cells of a value that can lie in memory -/
def cellsK (v : AV) (k : AV → R) : R :=
  AV.rec (motive := fun _ => R) (fun _ _ => k (.cons v .nl)) (fun _ => k (.cons v .nl)) (fun _ _ => k (.cons v .nl)) (fun _ _ _ _ => k (.cons v .nl)) (fun cs _ => k cs) (fun _ => k (.cons v .nl)) (fun _ _ _ => k (.cons v .nl)) (fun _ => k (.cons v .nl)) (fun _ => k (.cons v .nl)) (fun _ _ => none)
    (fun v' => match v' with | .tuple _ => none | _ => k (.cons v .nl)) none (fun _ _ _ _ => none) v

/-- a value of the code's as an abstract one -/
def ofList' (f : Value → AV) (l : List Value) : AV := lrec (β := AV) .nl (fun h _ ih => .cons (f h) ih) l
def ofFlat (v : Value) : AV := match v with
  | .int k n => .int k n
  | .bool b => .bool b
  | .string s => .str s.data.toList
  | .func (.func f) a b => br (lcs (β := Bool) (lcs (β := Bool) true (fun _ _ => false) b.toList) (fun _ _ => false) a.toList) (.fn f .nl) (.oth v)
  | v => .oth v
def ofVal (v : Value) : AV := match v with
  | .agg cs => .agg (ofList' ofFlat cs.toList)
  | v => ofFlat v
/-- a value that lies in one cell -/
def cellOk (v : Value) : Bool := match v with | .agg _ => false | .tuple _ => false | _ => true
def constOk (v : Value) : Bool := match v with
  | .agg cs => lrec (β := Bool) true (fun h _ ih => br (cellOk h) ih false) cs.toList
  | _ => true

/-! ### Lists of values, in passing style -/
def appA (l r : AV) : AV :=
  AV.rec (motive := fun _ => AV) (fun _ _ => r) (fun _ => r) (fun _ _ => r) (fun _ _ _ _ => r) (fun _ _ => r) (fun _ => r) (fun _ _ _ => r) (fun _ => r) (fun _ => r) (fun _ _ => r) (fun _ => r) r (fun h _ _ ih => .cons h ih) l
/-- the length; of what is no list, too -/
def lenA (l : AV) : Nat :=
  AV.rec (motive := fun _ => Nat) (fun _ _ => 0) (fun _ => 0) (fun _ _ => 0) (fun _ _ _ _ => 0) (fun _ _ => 0) (fun _ => 0) (fun _ _ _ => 0) (fun _ => 0) (fun _ => 0) (fun _ _ => 0) (fun _ => 0) 0 (fun _ _ _ ih => Nat.succ ih) l
def dropA (n : Nat) : AV → (AV → R) → R :=
  nrec (β := AV → (AV → R) → R) (fun l k => k l) (fun _ ih l k => avCons l fun _ t => ih t k) n
/-- just n of them -/
def takeA (n : Nat) : AV → (AV → R) → R :=
  nrec (β := AV → (AV → R) → R) (fun _ k => k .nl) (fun _ ih l k => avCons l fun h t => ih t fun r => k (.cons h r)) n
/-- write xs over the beginning -/
def overA (xs : AV) : AV → (AV → R) → R :=
  AV.rec (motive := fun _ => AV → (AV → R) → R) (fun _ _ _ _ => none) (fun _ _ _ => none) (fun _ _ _ _ => none) (fun _ _ _ _ _ _ => none) (fun _ _ _ _ => none) (fun _ _ _ => none) (fun _ _ _ _ _ => none) (fun _ _ _ => none) (fun _ _ _ => none) (fun _ _ _ _ => none) (fun _ _ _ => none)
    (fun l k => k l) (fun x _ _ ih l k => avCons l fun _ t => ih t fun r => k (.cons x r)) xs
/-- write xs at n -/
def spliceA (xs : AV) (n : Nat) : AV → (AV → R) → R :=
  nrec (β := AV → (AV → R) → R) (fun l k => overA xs l k) (fun _ ih l k => avCons l fun h t => ih t fun r => k (.cons h r)) n
def repA (n : Nat) (z : AV) : AV := nrec (β := AV) .nl (fun _ ih => appA z ih) n

section lists
variable {α β : Type}
def mapL (f : α → β) (l : List α) : List β := lrec (β := List β) [] (fun h _ ih => f h :: ih) l
def appL (l r : List α) : List α := lrec (β := List α) r (fun h _ ih => h :: ih) l
def dropL (n : Nat) : List α → List α :=
  nrec (β := List α → List α) (fun l => l) (fun _ ih l => lcs (β := List α) [] (fun _ t => ih t) l) n
def nthL (l : List α) (n : Nat) : Option α := lcs (β := Option α) none (fun h _ => some h) (dropL n l)
/-- at most n -/
def takeL (n : Nat) : List α → List α :=
  nrec (β := List α → List α) (fun _ => []) (fun _ ih l => lcs (β := List α) [] (fun h t => h :: ih t) l) n
def lenL (l : List α) : Nat := lrec (β := Nat) 0 (fun _ _ ih => Nat.succ ih) l
def anyL (p : α → Bool) (l : List α) : Bool := lrec (β := Bool) false (fun h _ ih => br (p h) true ih) l
def allL (p : α → Bool) (l : List α) : Bool := lrec (β := Bool) true (fun h _ ih => br (p h) ih false) l
end lists

def beqBytes (a b : List UInt8) : Bool :=
  lrec (β := List UInt8 → Bool) (fun b => lcs (β := Bool) true (fun _ _ => false) b)
    (fun x _ ih b => lcs (β := Bool) false (fun y t => br (Nat.beq x.toNat y.toNat) (ih t) false) b) a b
def pureV {α : Type} (s : Sem α) : Option α := match s with | .pure a => some a | _ => none

/-- a natural number below a bound -/
def natBelow (v : AV) (lt : Nat) (k : Nat → R) : R := avInt v fun _ n => Int.rec (motive := fun _ => R) (fun n => br (Nat.blt n lt) (k n) none) (fun _ => none) n

/-! ### Types -/
section
variable (E : Env)
def ty (t : TypeId) : Option TypeDesc := orec none (fun (i : TypeInfo) => match i.desc with
  | .named _ u => orec none (fun (j : TypeInfo) => some j.desc) (E.types.get u)
  | d => some d) (E.types.get t)
def sz (t : TypeId) : Option Nat := orec none (fun (i : TypeInfo) => some i.size) (E.types.get t)
def zr (t : TypeId) : Option AV := orec none (fun (i : TypeInfo) => orec none (fun v => br (constOk v) (some (ofVal v)) none) i.zero) (E.types.get t)
/-- the cells of a type's zero value -/
def zc (t : TypeId) : Option AV := orec none (fun (i : TypeInfo) => orec none (fun v => match v with
  | .agg cs => br (constOk v) (some (ofList' ofFlat cs.toList)) none
  | .tuple _ => none
  | v => some (.cons (ofFlat v) .nl)) i.zero) (E.types.get t)
def byt (t : TypeId) : Option Nat := orec none (fun (i : TypeInfo) => some i.bytes) (E.types.get t)
/-- the size of a value that lies in memory as cells, none if it is a single one -/
inductive Shape where
  | one
  | many (n : Nat)
def shape (t : TypeId) : Option Shape := orec none (fun d => match d with
  | TypeDesc.struct _ | TypeDesc.array _ _ => orec none (fun n => some (Shape.many n)) (sz E t)
  | _ => some Shape.one) (ty E t)
end

/-! ### Memory -/
def rd (m : Mem) (b o n : Nat) (k : AV → R) : R := orec none (fun x => match x with
  | Bk.cells vs _ => dropA o vs fun l => takeA n l k
  | _ => none) (m.hp.get b)
def rd1 (m : Mem) (b o : Nat) (k : AV → R) : R := orec none (fun x => match x with
  | Bk.cells vs _ => dropA o vs fun l => avCons l fun h _ => k h
  | _ => none) (m.hp.get b)
def minN (a b : Nat) : Nat := br (Nat.ble a b) a b
def setLo (m : Mem) (b : Nat) (hp : Tr Bk) (k : Mem → R) : R := br (Nat.ble m.lo b) (k ⟨hp, m.nx, m.lo⟩) (k ⟨hp, m.nx, b⟩)
def wr (m : Mem) (b o : Nat) (xs : AV) (k : Mem → R) : R := orec none (fun x => match x with
  | Bk.cells vs ext => spliceA xs o vs fun vs' => setLo m b (m.hp.set (some (.cells vs' ext)) b) k
  | _ => none) (m.hp.get b)
def new (m : Mem) (b : Bk) (k : Mem → R) : R := k ⟨m.hp.set (some b) m.nx, Nat.succ m.nx, m.lo⟩
def kill (m : Mem) (b : Nat) (k : Mem → R) : R := setLo m b (m.hp.set none b) k
def put (m : Mem) (b : Nat) (x : Bk) (k : Mem → R) : R := setLo m b (m.hp.set (some x) b) k

def loadC (s : Shape) (m : Mem) (a : AV) (k : AV → R) : R := avPtr a fun b o => match s with
  | .one => rd1 m b o k
  | .many n => rd m b o n fun l => k (.agg l)
def storeC (n : Nat) (m : Mem) (a v : AV) (k : Mem → R) : R := avPtr a fun b o => cellsK v fun cs => br (Nat.beq (lenA cs) n) (wr m b o cs k) none
/-- a part of cells -/
def partC (s : Shape) (cs : AV) (off : Nat) (k : AV → R) : R := dropA off cs fun l => match s with
  | .one => avCons l fun h _ => k h
  | .many n => takeA n l fun r => k (.agg r)

/-! ### Operators -/
def isNil (v : AV) (k : Bool → R) : R :=
  AV.rec (motive := fun _ => R) (fun _ _ => none) (fun _ => none) (fun _ _ => k false) (fun _ _ _ _ => k false) (fun _ _ => none) (fun _ => none) (fun _ _ _ => k false) (fun _ => k false) (fun _ => k false) (fun _ _ => none)
    (fun v => match v with | .pointer none => k true | .slice none _ _ => k true | .map none => k true | .nilFunc => k true | _ => none) none (fun _ _ _ _ => none) v
/-- is it the nil of a kind? -/
def nilAt (d : TypeDesc) (v : Value) : Bool := match d, v with
  | .pointer _, .pointer none => true
  | .slice _, .slice none _ _ => true
  | .map _ _, .map none => true
  | .func _ _ _, .nilFunc => true
  | _, _ => false
def isNilAt (d : TypeDesc) (v : AV) : Bool :=
  AV.rec (motive := fun _ => Bool) (fun _ _ => false) (fun _ => false) (fun _ _ => false) (fun _ _ _ _ => false) (fun _ _ => false) (fun _ => false) (fun _ _ _ => false) (fun _ => false) (fun _ => false) (fun _ _ => false) (fun v => nilAt d v) false (fun _ _ _ _ => false) v
/-- does a value that is not nil have a kind? -/
def someAt (d : TypeDesc) (v : AV) : Bool := match d with
  | .pointer _ => AV.rec (motive := fun _ => Bool) (fun _ _ => false) (fun _ => false) (fun _ _ => true) (fun _ _ _ _ => false) (fun _ _ => false) (fun _ => false) (fun _ _ _ => false) (fun _ => false) (fun _ => false) (fun _ _ => false) (fun v => nilAt d v) false (fun _ _ _ _ => false) v
  | .slice _ => AV.rec (motive := fun _ => Bool) (fun _ _ => false) (fun _ => false) (fun _ _ => false) (fun _ _ _ _ => true) (fun _ _ => false) (fun _ => false) (fun _ _ _ => false) (fun _ => false) (fun _ => false) (fun _ _ => false) (fun v => nilAt d v) false (fun _ _ _ _ => false) v
  | .map _ _ => AV.rec (motive := fun _ => Bool) (fun _ _ => false) (fun _ => false) (fun _ _ => false) (fun _ _ _ _ => false) (fun _ _ => false) (fun _ => false) (fun _ _ _ => false) (fun _ => false) (fun _ => true) (fun _ _ => false) (fun v => nilAt d v) false (fun _ _ _ _ => false) v
  | .func _ _ _ => AV.rec (motive := fun _ => Bool) (fun _ _ => false) (fun _ => false) (fun _ _ => false) (fun _ _ _ _ => false) (fun _ _ => false) (fun _ => false) (fun _ _ _ => true) (fun _ => true) (fun _ => false) (fun _ _ => false) (fun v => nilAt d v) false (fun _ _ _ _ => false) v
  | _ => false
/-- two rows of whole numbers, n of each -/
def eqInts (n : Nat) : AV → AV → (Bool → R) → R :=
  nrec (β := AV → AV → (Bool → R) → R) (fun _ _ k => k true)
    (fun _ ih xs ys k => avCons xs fun x xt => avCons ys fun y yt => avInt x fun j a => avInt y fun j' b => br (decide (j = j')) (br (decide (a = b)) (ih xt yt k) (k false)) none) n
def eqBool (x y : AV) (k : Bool → R) : R := avBool x fun a => avBool y fun b => k (br a b (notB b))
/-- `==` at one of the kinds that are known -/
def eqC (E : Env) (t : TypeId) (x y : AV) (k : Bool → R) : R := orec none (fun d => match d with
  | TypeDesc.bool => eqBool x y k
  | TypeDesc.array n el => br (E.plain t) (orec none (fun e => match e with
    | TypeDesc.int _ => orec none (fun s => br (Nat.beq s 1) (avAgg x fun xs => avAgg y fun ys => eqInts n xs ys k) none) (sz E el)
    | _ => none) (ty E el)) none
  | d => br (isNilAt d x) (br (someAt d y) (isNil y k) none) (br (isNilAt d y) (br (someAt d x) (isNil x k) none) none)) (ty E t)
def strOp (op : BinOp) (x y : List UInt8) (k : AV → R) : R := match op with
  | .eql => k (.bool (beqBytes x y))
  | .neq => k (.bool (notB (beqBytes x y)))
  | .add => br (Nat.ble (Nat.add (lenL x) (lenL y)) 1000000) (k (.str (appL x y))) none
  | _ => none
def intOp (op : BinOp) (j : IntKind) (a : Int) (j' : IntKind) (b : Int) (k : AV → R) : R := orec none (fun v => br (cellOk v) (k (ofFlat v)) none) (pureV (Go.binOp op 0 (.int j a) (.int j' b)))
/-- what is quick: two numbers that are not negative, and 64 bits -/
def natOp (op : BinOp) (j j' : IntKind) (a b : Nat) (slow : R) (k : AV → R) : R := match op with
  | .add => (match j, j' with
    | .i64, .i64 => br (Nat.blt (Nat.add a b) 9223372036854775808) (k (.int .i64 (.ofNat (Nat.add a b)))) slow
    | _, _ => slow)
  | .eql => br (decide (j = j')) (k (.bool (Nat.beq a b))) none
  | .neq => br (decide (j = j')) (k (.bool (notB (Nat.beq a b)))) none
  | .lss => br (decide (j = j')) (k (.bool (Nat.blt a b))) none
  | .leq => br (decide (j = j')) (k (.bool (Nat.ble a b))) none
  | .gtr => br (decide (j = j')) (k (.bool (Nat.blt b a))) none
  | .geq => br (decide (j = j')) (k (.bool (Nat.ble b a))) none
  | _ => slow
def intOp' (op : BinOp) (j : IntKind) (a : Int) (j' : IntKind) (b : Int) (k : AV → R) : R :=
  Int.rec (motive := fun _ => R) (fun m => Int.rec (motive := fun _ => R) (fun n => natOp op j j' m n (intOp op j (.ofNat m) j' (.ofNat n) k) k) (fun n => intOp op j (.ofNat m) j' (.negSucc n) k) b)
    (fun m => intOp op j (.negSucc m) j' b k) a
def fltOp (op : BinOp) (x y : Value) (k : AV → R) : R := match x, y with
  | .float .., .float .. => orec none (fun v => br (cellOk v) (k (ofFlat v)) none) (pureV (Go.binOp op 0 x y))
  | _, _ => none
def eqOrNot (op : BinOp) (b : Bool) (k : AV → R) : R := match op with
  | .eql => k (.bool b)
  | .neq => k (.bool (notB b))
  | _ => none
def binC (E : Env) (op : BinOp) (t : TypeId) (x y : AV) (k : AV → R) : R :=
  AV.rec (motive := fun _ => R)
    (fun j a => avInt y fun j' b => intOp' op j a j' b k)
    (fun _ => eqC E t x y fun b => eqOrNot op b k) (fun _ _ => eqC E t x y fun b => eqOrNot op b k) (fun _ _ _ _ => eqC E t x y fun b => eqOrNot op b k) (fun _ _ => eqC E t x y fun b => eqOrNot op b k)
    (fun s => avStr y fun s' => strOp op s s' k)
    (fun _ _ _ => eqC E t x y fun b => eqOrNot op b k) (fun _ => eqC E t x y fun b => eqOrNot op b k) (fun _ => eqC E t x y fun b => eqOrNot op b k) (fun _ _ => none)
    (fun v => match v with
      | .float j a => AV.rec (motive := fun _ => R) (fun _ _ => none) (fun _ => none) (fun _ _ => none) (fun _ _ _ _ => none) (fun _ _ => none) (fun _ => none) (fun _ _ _ => none) (fun _ => none) (fun _ => none) (fun _ _ => none)
          (fun v' => fltOp op (.float j a) v' k) none (fun _ _ _ _ => none) y
      | _ => eqC E t x y fun b => eqOrNot op b k) none (fun _ _ _ _ => none) x
def unC (op : UnOp) (x : AV) (k : AV → R) : R :=
  AV.rec (motive := fun _ => R)
    (fun j a => orec none (fun v => br (cellOk v) (k (ofFlat v)) none) (pureV (Op.unary op (.int j a))))
    (fun b => match op with | .not => k (.bool (notB b)) | _ => none) (fun _ _ => none) (fun _ _ _ _ => none) (fun _ _ => none) (fun _ => none) (fun _ _ _ => none) (fun _ => none) (fun _ => none) (fun _ _ => none)
    (fun v => match v with
      | .float j a => orec none (fun v => br (cellOk v) (k (ofFlat v)) none) (pureV (Op.unary op (.float j a)))
      | _ => none) none (fun _ _ _ _ => none) x
def minMax (b : Builtin) (x y : AV) (k : AV → R) : R := avInt x fun j a => avInt y fun _ c => match b with
  | .min => k (.int j (br (decide (c < a)) c a))
  | .max => k (.int j (br (decide (c > a)) c a))
  | _ => none

/-! ### Slices -/
/-- is the capacity of what lies in a block just what its value says? -/
def capKnown (m : Mem) (b : Nat) (k : R) (u : Nat → R) : R := orec none (fun x => match x with | Bk.cells _ ext => orec k u ext | _ => none) (m.hp.get b)
/-- a bound: a number of at most so much, or what it is if it is not written -/
def optN (v : Option AV) (d most : Nat) (k : Nat → R) : R := orec (br (Nat.ble d most) (k d) none) (fun v => natBelow v (Nat.succ most) k) v
def slcStr (s : List UInt8) (lo hi : Option AV) (k : AV → R) : R :=
  optN hi (lenL s) (lenL s) fun h => optN lo 0 h fun l => k (.str (takeL (Nat.sub h l) (dropL l s)))
def slcSlc (m : Mem) (n : Nat) (b o len cap : Nat) (lo hi : Option AV) (k : AV → R) : R :=
  optN hi len cap fun h => optN lo 0 h fun l =>
    br (Nat.beq l 0) (k (.slc b o h cap))
      (br (Nat.blt l cap) (capKnown m b (k (.slc b (Nat.add o (Nat.mul l n)) (Nat.sub h l) (Nat.sub cap l))) fun es => br (Nat.beq es n) (k (.slc b (Nat.add o (Nat.mul l n)) (Nat.sub h l) (Nat.sub cap l))) none)
        (capKnown m b (k (.slc b o (Nat.sub h l) (Nat.sub cap l))) fun _ => none))
def slcNil (lo hi : Option AV) (len cap : Nat) (k : AV → R) : R :=
  br (Nat.beq len 0) (br (Nat.beq cap 0) (optN hi 0 0 fun _ => optN lo 0 0 fun _ => k (.oth (.slice none 0 0))) none) none
def slcArr (n len : Nat) (b o : Nat) (lo hi : Option AV) (k : AV → R) : R :=
  optN hi len len fun h => optN lo 0 h fun l => k (.slc b (br (Nat.beq len l) o (Nat.add o (Nat.mul l n))) (Nat.sub h l) (Nat.sub len l))

def bytesA (l : List UInt8) : AV := lrec (β := AV) .nl (fun b _ ih => .cons (.int .u8 (.ofNat b.toNat)) ih) l
/-- the cells of n elements -/
def elems (m : Mem) (size n : Nat) (x : AV) (k : AV → R) : R := avStrSlc x (fun s => br (Nat.beq size 1) (k (bytesA (takeL n s))) none)
  (fun b o _ _ => br (Nat.beq (Nat.mul n size) 0) (k .nl) (rd m b o (Nat.mul n size) k)) (fun l _ => br (Nat.beq l 0) (k .nl) none)
def lenOf (x : AV) (k : Nat → R) : R := avStrSlc x (fun s => k (lenL s)) (fun _ _ n _ => k n) (fun n _ => k n)

/-- an append that finds no room -/
def grow (m : Mem) (size : Nat) (old xs : AV) (need : Nat) (k : AV → Mem → R) : R :=
  br (Nat.ble need 1000000) (new m (.cells (appA old xs) (some size)) fun m' => k (.slc m.nx 0 need need) m') none
def app (m : Mem) (size : Nat) (s x : AV) (k : AV → Mem → R) : R := lenOf x fun n => elems m size n x fun xs => avSlc s
  (fun b o len cap => br (Nat.ble (Nat.add len n) cap)
    (br (isNl xs) (k (.slc b o (Nat.add len n) cap) m) (wr m b (Nat.add o (Nat.mul len size)) xs fun m' => k (.slc b o (Nat.add len n) cap) m'))
    (elems m size len s fun old => capKnown m b (grow m size old xs (Nat.add len n) k) fun es => br (Nat.beq es size) (kill m b fun m' => grow m' size old xs (Nat.add len n) k) none))
  (fun len cap => br (Nat.beq len 0) (br (Nat.beq cap 0) (br (Nat.beq n 0) (k (.oth (.slice none 0 0)) m) (grow m size .nl xs n k)) none) none)
def copyC (m : Mem) (size : Nat) (d x : AV) (k : AV → Mem → R) : R := lenOf x fun sl => avSlc d
  (fun b o dl _ => elems m size (minN sl dl) x fun xs => br (isNl xs) (k (.int .i64 (.ofNat (minN sl dl))) m) (wr m b o xs fun m' => k (.int .i64 (.ofNat (minN sl dl))) m'))
  (fun dl _ => br (Nat.beq dl 0) (k (.int .i64 0) m) none)

/-! ### Maps -/
def sameK (d : TypeDesc) (x y : AV) (k : Bool → R) : R := match d with
  | .int _ => avInt x fun j a => avInt y fun j' b => br (decide (j = j')) (k (decide (a = b))) none
  | .string => avStr x fun a => avStr y fun b => k (beqBytes a b)
  | _ => none
def keyKind (d : TypeDesc) : Bool := match d with | .int _ => true | .string => true | _ => false
def findM (d : TypeDesc) (x : AV) (es : List (AV × AV)) (k : Option AV → R) : R :=
  lrec (β := R) (k none) (fun h _ ih => sameK d x h.1 fun b => br b (k (some h.2)) ih) es
def updM (d : TypeDesc) (x v : AV) (es : List (AV × AV)) : (List (AV × AV) → R) → R :=
  lrec (β := (List (AV × AV) → R) → R) (fun k => k [(x, v)])
    (fun h t ih k => sameK d x h.1 fun b => br b (k ((x, v) :: t)) (ih fun r => k (h :: r))) es

/-! ### Building -/
def placesS (E : Env) (fs : List Field) : Option (List (Nat × Nat)) :=
  lrec (β := Option (List (Nat × Nat))) (some []) (fun f _ ih => orec none (fun n => orec none (fun r => some ((f.offset, n) :: r)) ih) (sz E f.type)) fs
/-- parts laid over cells: (where, how many cells, value) -/
def fillA (ps : List (Nat × Nat × AV)) : AV → (AV → R) → R :=
  lrec (β := AV → (AV → R) → R) (fun cs k => k cs)
    (fun p _ ih cs k => cellsK p.2.2 fun xs => br (Nat.beq (lenA xs) p.2.1) (spliceA xs p.1 cs fun cs' => ih cs' k) none) ps

/-! ### Operands and temporaries -/
structure Sel (α : Type) where
  f : O8 α → α
def selC {α : Type} (i : Nat) : Sel α :=
  orec ⟨O8.h⟩ (fun s => s) (nthL [⟨O8.a⟩, ⟨O8.b⟩, ⟨O8.c⟩, ⟨O8.d⟩, ⟨O8.e⟩, ⟨O8.f⟩, ⟨O8.g⟩] i)
structure Opd where
  f : TM → AV
def getC (t : Nat) : Opd :=
  Sel.rec (motive := fun _ => Opd) (fun f => Sel.rec (motive := fun _ => Opd) (fun g => Sel.rec (motive := fun _ => Opd) (fun h => ⟨fun tm => h (g (f tm))⟩)
    (selC (α := AV) (Nat.land t 7))) (selC (α := O8 AV) (Nat.land (Nat.shiftRight t 3) 7))) (selC (α := O8 (O8 AV)) (Nat.shiftRight t 6))
structure Upd (α : Type) where
  f : O8 α → (α → (α → R) → R) → (O8 α → R) → R
def updC {α : Type} (i : Nat) : Upd α :=
  orec ⟨fun t s k => O8.rec (motive := fun _ => R) (fun a b c d e f g h => s h fun h => k ⟨a, b, c, d, e, f, g, h⟩) t⟩ (fun s => s) (nthL
   [⟨fun t s k => O8.rec (motive := fun _ => R) (fun a b c d e f g h => s a fun a => k ⟨a, b, c, d, e, f, g, h⟩) t⟩,
    ⟨fun t s k => O8.rec (motive := fun _ => R) (fun a b c d e f g h => s b fun b => k ⟨a, b, c, d, e, f, g, h⟩) t⟩,
    ⟨fun t s k => O8.rec (motive := fun _ => R) (fun a b c d e f g h => s c fun c => k ⟨a, b, c, d, e, f, g, h⟩) t⟩,
    ⟨fun t s k => O8.rec (motive := fun _ => R) (fun a b c d e f g h => s d fun d => k ⟨a, b, c, d, e, f, g, h⟩) t⟩,
    ⟨fun t s k => O8.rec (motive := fun _ => R) (fun a b c d e f g h => s e fun e => k ⟨a, b, c, d, e, f, g, h⟩) t⟩,
    ⟨fun t s k => O8.rec (motive := fun _ => R) (fun a b c d e f g h => s f fun f => k ⟨a, b, c, d, e, f, g, h⟩) t⟩,
    ⟨fun t s k => O8.rec (motive := fun _ => R) (fun a b c d e f g h => s g fun g => k ⟨a, b, c, d, e, f, g, h⟩) t⟩] i)
structure Put where
  f : TM → AV → (TM → R) → R
def putC (t : Nat) : Put :=
  Upd.rec (motive := fun _ => Put) (fun f => Upd.rec (motive := fun _ => Put) (fun g => Upd.rec (motive := fun _ => Put)
    (fun h => ⟨fun tm v k => f tm (fun x kx => g x (fun y ky => h y (fun _ kz => kz v) ky) kx) k⟩)
    (updC (α := AV) (Nat.land t 7))) (updC (α := O8 AV) (Nat.land (Nat.shiftRight t 3) 7))) (updC (α := O8 (O8 AV)) (Nat.shiftRight t 6))
/-- where an operation's value goes -/
def dstC (nt : Nat) (d : Option Tmp) : Option Put := orec (some ⟨fun tm _ k => k tm⟩) (fun t => br (Nat.blt t nt) (br (Nat.blt t 512) (some (putC t)) none) none) d

def opdC (E : Env) (nt : Nat) (x : Operand) : Option Opd := match x with
  | .tmp t => br (Nat.blt t nt) (br (Nat.blt t 512) (some (getC t)) none) none
  | .const v => br (constOk v) (some ⟨fun _ => ofVal v⟩) none
  | .global g => br (Nat.blt g E.ng) (some ⟨fun _ => .ptr g 0⟩) none
  | .func f => some ⟨fun _ => .fn f .nl⟩
/-- several operands as a list -/
def opdsC (E : Env) (nt : Nat) (xs : List Operand) : Option Opd :=
  lrec (β := Option Opd) (some ⟨fun _ => .nl⟩) (fun x _ ih => orec none (fun p => orec none (fun q => some ⟨fun tm => .cons (p.f tm) (q.f tm)⟩) ih) (opdC E nt x)) xs

/-! ### Operations -/
structure OpC where
  f : Fs → TM → Mem → (TM → Mem → R) → R
def noC : OpC := ⟨fun _ _ _ _ => none⟩
def withO {α : Type} (o : Option α) (f : α → OpC) : OpC := orec noC f o

section
variable (E : Env) (nt : Nat)
/-- an operation that gives a value and leaves memory alone -/
def val1 (d : Put) (x : Opd) (g : AV → (AV → R) → R) : OpC := ⟨fun _ tm m k => g (x.f tm) fun v => d.f tm v fun tm' => k tm' m⟩

/-- parts with their places -/
def partsC (place : Nat → Option (Nat × Nat)) (ps : List (Nat × Operand)) : Option (TM → List (Nat × Nat × AV)) :=
  lrec (β := Option (TM → List (Nat × Nat × AV))) (some fun _ => []) (fun p _ ih => orec none (fun (q : Nat × Nat) => orec none (fun (x : Opd) => orec none (fun r => some fun tm => (q.1, q.2, x.f tm) :: r tm) ih) (opdC E nt p.2)) (place p.1)) ps
def buildC (d : Put) (t : TypeId) (ps : List (Nat × Operand)) : OpC := withO (zc E t) fun z => withO (ty E t) fun dd => match dd with
  | .struct fs => withO (placesS E fs.toList) fun pl => withO (partsC E nt (fun i => nthL pl i) ps) fun f =>
    ⟨fun _ tm m k => fillA (f tm) z fun cs => d.f tm (.agg cs) fun tm' => k tm' m⟩
  | .array _ el => withO (sz E el) fun n => withO (partsC E nt (fun i => some (Nat.mul i n, n)) ps) fun f =>
    ⟨fun _ tm m k => fillA (f tm) z fun cs => d.f tm (.agg cs) fun tm' => k tm' m⟩
  | _ => noC
def buildSC (d : Put) (t : TypeId) (len : Nat) (ps : List (Nat × Operand)) : OpC := withO (ty E t) fun dd => match dd with
  | .slice el => withO (sz E el) fun n => withO (zc E el) fun z => withO (partsC E nt (fun i => some (Nat.mul i n, n)) ps) fun f =>
    br (Nat.ble (Nat.mul len n) 1000000) (br (Nat.beq (lenA z) n)
    ⟨fun _ tm m k => fillA (f tm) (repA len z) fun cs => new m (.cells cs none) fun m' => d.f tm (.slc m.nx 0 len len) fun tm' => k tm' m'⟩ noC) noC
  | _ => noC

def toBytes (l : AV) : (List UInt8 → R) → R :=
  AV.rec (motive := fun _ => (List UInt8 → R) → R) (fun _ _ _ => none) (fun _ _ => none) (fun _ _ _ => none) (fun _ _ _ _ _ => none) (fun _ _ _ => none) (fun _ _ => none) (fun _ _ _ _ => none) (fun _ _ => none) (fun _ _ => none) (fun _ _ _ => none) (fun _ _ => none)
    (fun k => k []) (fun h _ _ ih k => avInt h fun j n => match j with | .u8 => ih fun r => k (UInt8.ofNat n.toNat :: r) | _ => none) l
def convC (d : Put) (s t : TypeId) (x : Opd) : OpC := withO (ty E s) fun ds => withO (ty E t) fun dd => match dd with
  | .int j => val1 d x fun v k => avInt v fun _ n => k (.int j (j.wrap n))
  | .float j => val1 d x fun v k => avInt v fun _ n => k (.oth (.float j (j.nearest n)))
  | .string => (match ds with
    | .string => val1 d x fun v k => avStr v fun s => k (.str s)
    | .slice e => withO (ty E e) fun de => (match de with
      | .int .u8 => ⟨fun _ tm m k => avSlc (x.f tm) (fun b o n _ => rd m b o n fun l => toBytes l fun r => d.f tm (.str r) fun tm' => k tm' m) (fun _ _ => d.f tm (.str []) fun tm' => k tm' m)⟩
      | _ => noC)
    | _ => noC)
  | .slice e => withO (ty E e) fun de => (match de, ds with
    | .int .u8, .string => ⟨fun _ tm m k => avStr (x.f tm) fun s => new m (.cells (bytesA s) (some 1)) fun m' => d.f tm (.slc m.nx 0 (lenL s) (lenL s)) fun tm' => k tm' m'⟩
    | _, _ => noC)
  | _ => noC

def lenC (d : Put) (t : TypeId) (x : Opd) : OpC := withO (ty E t) fun dd => match dd with
  | .array n _ => ⟨fun _ tm m k => d.f tm (.int .i64 (.ofNat n)) fun tm' => k tm' m⟩
  | .pointer p => withO (ty E p) fun d' => (match d' with
    | .array n _ => ⟨fun _ tm m k => d.f tm (.int .i64 (.ofNat n)) fun tm' => k tm' m⟩
    | _ => noC)
  | .string => val1 d x fun v k => avStr v fun s => k (.int .i64 (.ofNat (lenL s)))
  | .slice _ => val1 d x fun v k => avSlc v (fun _ _ n _ => k (.int .i64 (.ofNat n))) (fun n _ => k (.int .i64 (.ofNat n)))
  | _ => noC
def notInt (d : TypeDesc) : Bool := match d with | .int _ => false | _ => true
def bltnC (d : Put) (b : Builtin) (ts : List TypeId) (args : List Operand) : OpC := match args with
  | [x] => withO (opdC E nt x) fun x => withO (nthL ts 0) fun t => (match b with
    | .len => lenC E d t x
    | .cap => withO (ty E t) fun dd => (match dd with
      | .slice _ => ⟨fun _ tm m k => avSlc (x.f tm) (fun b _ _ c => capKnown m b (d.f tm (.int .i64 (.ofNat c)) fun tm' => k tm' m) fun _ => none) (fun _ c => d.f tm (.int .i64 (.ofNat c)) fun tm' => k tm' m)⟩
      | _ => noC)
    | _ => noC)
  | [x, y] => withO (opdC E nt x) fun x => withO (opdC E nt y) fun y => withO (nthL ts 0) fun t => (match b with
    | .append => withO (ty E t) fun dd => withO (nthL ts 1) fun t1 => withO (ty E t1) fun d1 => (match dd with
      | .slice el => withO (sz E el) fun n => withO (zc E el) fun z => withO (byt E el) fun bt => br (notInt d1) (br (Nat.ble bt 1000000) (br (Nat.beq (lenA z) n)
        ⟨fun _ tm m k => app m n (x.f tm) (y.f tm) fun v m' => d.f tm v fun tm' => k tm' m'⟩ noC) noC) noC
      | _ => noC)
    | .copy => withO (ty E t) fun dd => (match dd with
      | .slice el => withO (sz E el) fun n => ⟨fun _ tm m k => copyC m n (x.f tm) (y.f tm) fun v m' => d.f tm v fun tm' => k tm' m'⟩
      | _ => noC)
    | .min => ⟨fun _ tm m k => minMax .min (x.f tm) (y.f tm) fun v => d.f tm v fun tm' => k tm' m⟩
    | .max => ⟨fun _ tm m k => minMax .max (x.f tm) (y.f tm) fun v => d.f tm v fun tm' => k tm' m⟩
    | _ => noC)
  | _ => noC

def optC (x : Option Operand) : Option (TM → Option AV) := orec (some fun _ => none) (fun x => orec none (fun (p : Opd) => some fun tm => some (p.f tm)) (opdC E nt x)) x
def slcC (d : Put) (t : TypeId) (x : Opd) (lo hi mx : Option Operand) : OpC := orec
  (withO (optC E nt lo) fun lo => withO (optC E nt hi) fun hi => withO (ty E t) fun dd => match dd with
    | .string => ⟨fun _ tm m k => avStr (x.f tm) fun s => slcStr s (lo tm) (hi tm) fun v => d.f tm v fun tm' => k tm' m⟩
    | .slice el => withO (sz E el) fun n => ⟨fun _ tm m k => avSlc (x.f tm) (fun b o len cap => slcSlc m n b o len cap (lo tm) (hi tm) fun v => d.f tm v fun tm' => k tm' m)
        (fun len cap => slcNil (lo tm) (hi tm) len cap fun v => d.f tm v fun tm' => k tm' m)⟩
    | .array len el => withO (sz E el) fun n => ⟨fun _ tm m k => avPtr (x.f tm) fun b o => slcArr n len b o (lo tm) (hi tm) fun v => d.f tm v fun tm' => k tm' m⟩
    | _ => noC) (fun _ => noC) mx

def callC (d : Put) (f : Opd) (args : Opd) : OpC :=
  ⟨fun ih tm m k => avFn (f.f tm) (fun g caps => ih.call g (appA (args.f tm) caps) m fun v m' => d.f tm v fun tm' => k tm' m')
    (fun l => ih.round l (args.f tm) m fun v m' => d.f tm v fun tm' => k tm' m')⟩

def lookC (d : Put) (t : TypeId) (x k' : Opd) (ok : Bool) : OpC := withO (ty E t) fun dd => match dd with
  | .map kt el => withO (ty E kt) fun dk => withO (zr E el) fun z => br (keyKind dk)
    ⟨fun _ tm m k => avMap (x.f tm)
      (fun r => orec none (fun b => match b with
        | Bk.map es => findM dk (k'.f tm) es fun q => d.f tm (br ok (.tup (.cons (orec z (fun v => v) q) (.cons (.bool (orec false (fun _ => true) q)) .nl))) (orec z (fun v => v) q)) fun tm' => k tm' m
        | _ => none) (m.hp.get r))
      (d.f tm (br ok (.tup (.cons z (.cons (.bool false) .nl))) z) fun tm' => k tm' m)⟩ noC
  | _ => noC

def opC (o : Oper) : OpC := withO (dstC nt o.dst) fun d => match o.op with
  | .move x => withO (opdC E nt x) fun x => ⟨fun _ tm m k => d.f tm (x.f tm) fun tm' => k tm' m⟩
  | .assign x => withO (opdC E nt x) fun x => ⟨fun _ tm m k => d.f tm (x.f tm) fun tm' => k tm' m⟩
  | .pick c a b => withO (opdC E nt c) fun c => withO (opdC E nt a) fun a => withO (opdC E nt b) fun b =>
    ⟨fun _ tm m k => avBool (c.f tm) fun t => br t (d.f tm (a.f tm) fun tm' => k tm' m) (d.f tm (b.f tm) fun tm' => k tm' m)⟩
  | .alloc el => withO (zc E el) fun z => ⟨fun _ tm m k => new m (.cells z none) fun m' => d.f tm (.ptr m.nx 0) fun tm' => k tm' m'⟩
  | .box _ x => withO (opdC E nt x) fun x => ⟨fun _ tm m k => cellsK (x.f tm) fun cs => new m (.cells cs none) fun m' => d.f tm (.ptr m.nx 0) fun tm' => k tm' m'⟩
  | .build t ps => buildC E nt d t ps.toList
  | .buildSlice t len ps => buildSC E nt d t len ps.toList
  | .load t a => withO (shape E t) fun s => withO (opdC E nt a) fun a => ⟨fun _ tm m k => loadC s m (a.f tm) fun v => d.f tm v fun tm' => k tm' m⟩
  | .store t a x => withO (sz E t) fun n => withO (opdC E nt a) fun a => withO (opdC E nt x) fun x => ⟨fun _ tm m k => storeC n m (a.f tm) (x.f tm) fun m' => d.f tm undefA fun tm' => k tm' m'⟩
  | .nilCheck x => withO (opdC E nt x) fun x => ⟨fun _ tm m k => avPtr (x.f tm) fun b o => d.f tm (.ptr b o) fun tm' => k tm' m⟩
  | .binOp b t x y _ => withO (opdC E nt x) fun x => withO (opdC E nt y) fun y => ⟨fun _ tm m k => binC E b t (x.f tm) (y.f tm) fun v => d.f tm v fun tm' => k tm' m⟩
  | .unOp u _ x => withO (opdC E nt x) fun x => val1 d x (unC u)
  | .convert s t x => withO (opdC E nt x) fun x => convC E d s t x
  | .makeFunc f a b => (match f, a.toList with
    | .func f, [] => withO (opdsC E nt b.toList) fun b => ⟨fun _ tm m k => d.f tm (.fn f (b.f tm)) fun tm' => k tm' m⟩
    | _, _ => noC)
  | .makeMap _ r => (match r with | none => ⟨fun _ tm m k => new m (.map []) fun m' => d.f tm (.map m.nx) fun tm' => k tm' m'⟩ | some _ => noC)
  | .makeSlice t l c => withO (ty E t) fun dd => (match dd with
    | .slice el => withO (opdC E nt l) fun l => withO (opdC E nt c) fun c => withO (sz E el) fun n => withO (zc E el) fun z => withO (byt E el) fun bt => br (Nat.ble bt 1000000) (br (Nat.beq (lenA z) n)
      ⟨fun _ tm m k => natBelow (c.f tm) 100000 fun c => natBelow (l.f tm) (Nat.succ c) fun l => new m (.cells (repA c z) none) fun m' => d.f tm (.slc m.nx 0 l c) fun tm' => k tm' m'⟩ noC) noC
    | _ => noC)
  | .slice t x lo hi mx => withO (opdC E nt x) fun x => slcC E nt d t x lo hi mx
  | .fieldAddr s x f => withO (ty E s) fun dd => (match dd with
    | .struct fs => withO (nthL fs.toList f) fun fd => withO (opdC E nt x) fun x => withO (sz E fd.type) fun n => br (Nat.beq n 0) noC
      ⟨fun _ tm m k => avPtr (x.f tm) fun b o => d.f tm (.ptr b (Nat.add o fd.offset)) fun tm' => k tm' m⟩
    | _ => noC)
  | .field t x f => withO (ty E t) fun dd => (match dd with
    | .struct fs => withO (nthL fs.toList f) fun fd => withO (opdC E nt x) fun x => withO (shape E fd.type) fun s =>
      ⟨fun _ tm m k => avAgg (x.f tm) fun cs => partC s cs fd.offset fun v => d.f tm v fun tm' => k tm' m⟩
    | _ => noC)
  | .indexAddr t x i => withO (ty E t) fun dd => withO (opdC E nt x) fun x => withO (opdC E nt i) fun i => (match dd with
    | .slice el => withO (sz E el) fun n => ⟨fun _ tm m k => avSlc (x.f tm) (fun b o len _ => natBelow (i.f tm) len fun j => d.f tm (.ptr b (Nat.add o (Nat.mul j n))) fun tm' => k tm' m) (fun _ _ => none)⟩
    | .array len el => withO (sz E el) fun n => ⟨fun _ tm m k => avPtr (x.f tm) fun b o => natBelow (i.f tm) len fun j => d.f tm (.ptr b (Nat.add o (Nat.mul j n))) fun tm' => k tm' m⟩
    | _ => noC)
  | .index t x i => withO (ty E t) fun dd => withO (opdC E nt x) fun x => withO (opdC E nt i) fun i => (match dd with
    | .string => ⟨fun _ tm m k => avStr (x.f tm) fun s => natBelow (i.f tm) (lenL s) fun j => orec none (fun (b : UInt8) => d.f tm (.int .u8 (.ofNat b.toNat)) fun tm' => k tm' m) (nthL s j)⟩
    | .array len el => withO (sz E el) fun n => withO (shape E el) fun s =>
      ⟨fun _ tm m k => avAgg (x.f tm) fun cs => natBelow (i.f tm) len fun j => partC s cs (Nat.mul j n) fun v => d.f tm v fun tm' => k tm' m⟩
    | _ => noC)
  | .lookup t x k' ok => withO (opdC E nt x) fun x => withO (opdC E nt k') fun k' => lookC E d t x k' ok
  | .mapUpdate t x k' v => withO (opdC E nt x) fun x => withO (opdC E nt k') fun k' => withO (opdC E nt v) fun v => withO (ty E t) fun dd => (match dd with
    | .map kt _ => withO (ty E kt) fun dk => br (keyKind dk) ⟨fun _ tm m k => avMap (x.f tm) (fun r => orec none (fun b => match b with
      | Bk.map es => updM dk (k'.f tm) (v.f tm) es fun es' => put m r (.map es') fun m' => d.f tm undefA fun tm' => k tm' m'
      | _ => none) (m.hp.get r)) none⟩ noC
    | _ => noC)
  | .extract x i => withO (opdC E nt x) fun x => ⟨fun _ tm m k => avTup (x.f tm) fun vs => dropA i vs fun l => avCons l fun v _ => d.f tm v fun tm' => k tm' m⟩
  | .call c => (match c.callee with
    | .builtin b => bltnC E nt d b c.argTypes.toList c.args.toList
    | .value f => withO (opdC E nt f) fun f => withO (opdsC E nt c.args.toList) fun a => callC d f a
    | .invoke _ _ => noC)
  | _ => noC

/-! ### Regions that draw their order -/
/-- operations that look at no memory, whatever their operands are -/
def quiet (o : Op) : Bool := match o with
  | .move _ | .assign _ | .pick .. | .build .. | .nilCheck _ | .binOp .. | .unOp .. | .makeFunc .. | .fieldAddr .. | .field .. | .indexAddr .. | .index .. | .extract .. => true
  | .call { callee := .builtin .len, .. } | .call { callee := .builtin .min, .. } | .call { callee := .builtin .max, .. } => true
  | _ => false
/-- operations that only read memory, at the address that is given -/
def readsAt (o : Op) : Option Operand := match o with
  | .load _ a => some a
  | _ => none
def isCall (o : Op) : Bool := match o with
  | .call { callee := .builtin _, .. } => false
  | .call _ => true
  | _ => false
end

def tmpsOf (o : Oper) : List Tmp := lrec (β := List Tmp) [] (fun x _ ih => match x with | .tmp t => t :: ih | _ => ih) o.op.operands.toList
/-- the temporaries that an operation reads: its guard's too -/
def readsT (ops : List Oper) (o : Oper) : List Tmp := match o.guard with
  | none => tmpsOf o
  | some (j, _) => match nthL ops j with
    | some g => (match g.dst with | some d => d :: tmpsOf o | none => tmpsOf o)
    | none => tmpsOf o
def memN (t : Nat) (l : List Nat) : Bool := anyL (fun x => Nat.beq t x) l
def optMem (d : Option Nat) (l : List Nat) : Bool := orec false (fun t => memN t l) d
def optBeq (a b : Option Nat) : Bool := orec false (fun x => orec false (fun y => Nat.beq x y) b) a
/-- two operations whose temporaries have nothing to do with each other -/
def apartT (ops : List Oper) (a b : Oper) : Bool :=
  br (optBeq a.dst b.dst) false (br (optMem a.dst (readsT ops b)) false (br (optMem b.dst (readsT ops a)) false true))
/-- i (the earlier one) need not come before j -/
def loose (bef : List Nat) (i j : Nat) : Bool := orec true (fun b => Nat.beq (Nat.land (Nat.shiftRight b i) 1) 0) (nthL bef j)

/-- all pairs (i, j), i < j, of operations of which neither has to come first -/
def pairsFrom (bef : List Nat) (i : Nat) (a : Oper) (rest : List Oper) : Nat → List (Nat × Nat × Oper × Oper) :=
  lrec (β := Nat → List (Nat × Nat × Oper × Oper)) (fun _ => []) (fun b _ ih j => br (loose bef i j) ((i, j, a, b) :: ih (Nat.succ j)) (ih (Nat.succ j))) rest
def pairs (bef : List Nat) (ops : List Oper) : Nat → List (Nat × Nat × Oper × Oper) :=
  lrec (β := Nat → List (Nat × Nat × Oper × Oper)) (fun _ => []) (fun a t ih i => appL (pairsFrom bef i a t (Nat.succ i)) (ih (Nat.succ i))) ops
def loosePairs (ops : Array Oper) : List (Nat × Nat × Oper × Oper) := pairs (Region.before ops).toList ops.toList 0
/-- what an operation comes after has a smaller number -/
def afterOk (o : Oper) (i : Nat) : Bool := allL (fun (e : Edge) => br (Region.binds .any e) (Nat.blt e.on i) true) o.after.toList
def aftersOk (ops : List Oper) : Nat → Bool :=
  lrec (β := Nat → Bool) (fun _ => true) (fun o _ ih i => br (afterOk o i) (ih (Nat.succ i)) false) ops
/-- what of a region's being free of order can be told from its text -/
def staticOk (ops : Array Oper) : Bool :=
  br (allL (fun (p : Nat × Nat × Oper × Oper) => apartT ops.toList p.2.2.1 p.2.2.2) (loosePairs ops)) (aftersOk ops.toList 0) false
/-- the pairs of which both look at memory -/
def loudPairs (ops : Array Oper) : List (Nat × Nat) :=
  lrec (β := List (Nat × Nat)) [] (fun p _ ih => br (quiet p.2.2.1.op) ih (br (quiet p.2.2.2.op) ih ((p.1, p.2.1) :: ih))) (loosePairs ops)

/-- what an operation did: nothing that matters; a read of a block; something else: the least of the elder blocks that it turned, if any, and whether it was a call -/
inductive Did where
  | none
  | read (b : Nat)
  | heavy (w : Option Nat) (call : Bool)
def agree (a b : Did) : Bool := match a, b with
  | .none, _ => true
  | .read _, .none => true
  | .read _, .read _ => true
  | .read b, .heavy w c => orec true (fun t => br c false (notB (Nat.beq t b))) w
  | .heavy _ _, .none => true
  | .heavy w c, .read b => orec true (fun t => br c false (notB (Nat.beq t b))) w
  | .heavy w _, .heavy w' _ => orec (orec true (fun _ => false) w') (fun _ => false) w
def agreeAt (ds : List Did) (i j : Nat) : Bool := orec false (fun a => orec false (fun b => agree a b) (nthL ds j)) (nthL ds i)

section
variable (E : Env) (nt : Nat)
/-- an operation with its guard -/
def guardC (ops : List Oper) (o : Oper) (yes no : OpC) : OpC := match o.guard with
  | none => yes
  | some (j, b) => withO (nthL ops j) fun g => withO g.dst fun t => withO (opdC E nt (.tmp t)) fun x => ⟨fun ih tm m k => avTest (x.f tm) b (yes.f ih tm m k) (no.f ih tm m k)⟩
def skipC (o : Oper) : OpC := withO (dstC nt o.dst) fun d => ⟨fun _ tm m k => d.f tm undefA fun tm' => k tm' m⟩
def stepC (ops : List Oper) (o : Oper) : OpC := guardC E nt ops o (opC E nt o) (skipC nt o)
def regC (ops : List Oper) (todo : List Oper) : OpC :=
  lrec (β := OpC) ⟨fun _ tm m k => k tm m⟩ (fun o _ rest => OpC.rec (motive := fun _ => OpC) (fun f => ⟨fun ih tm m k => f ih tm m fun tm' m' => rest.f ih tm' m' k⟩) (stepC E nt ops o)) todo

/-- what says what was done -/
structure DrC where
  f : Fs → TM → Mem → (TM → Mem → Did → R) → R
def didC (o : Oper) : DrC := br (quiet o.op) (OpC.rec (motive := fun _ => DrC) (fun f => ⟨fun ih tm m k => f ih tm m fun tm' m' => k tm' m' .none⟩) (opC E nt o))
  (orec
    (OpC.rec (motive := fun _ => DrC) (fun f => ⟨fun ih tm m k => f ih tm ⟨m.hp, m.nx, m.nx⟩ fun tm' m' =>
      br (Nat.blt m'.lo m.nx) (br (Nat.ble m.lo m'.lo) (k tm' ⟨m'.hp, m'.nx, m.lo⟩ (.heavy (some m'.lo) (isCall o.op))) (k tm' m' (.heavy (some m'.lo) (isCall o.op))))
        (k tm' ⟨m'.hp, m'.nx, m.lo⟩ (.heavy none (isCall o.op)))⟩) (opC E nt o))
    (fun a => orec ⟨fun _ _ _ _ => none⟩ (fun (a : Opd) => OpC.rec (motive := fun _ => DrC) (fun f => ⟨fun ih tm m k => avPtr (a.f tm) fun b _ => br (Nat.blt b m.nx) (f ih tm m fun tm' m' => k tm' m' (.read b)) none⟩) (opC E nt o)) (opdC E nt a))
    (readsAt o.op))
def guardD (ops : List Oper) (o : Oper) (yes : DrC) (no : OpC) : DrC := match o.guard with
  | none => yes
  | some (j, b) => orec ⟨fun _ _ _ _ => none⟩ (fun (g : Oper) => orec ⟨fun _ _ _ _ => none⟩ (fun t => orec ⟨fun _ _ _ _ => none⟩ (fun (x : Opd) =>
    ⟨fun ih tm m k => avTest (x.f tm) b (yes.f ih tm m k) (no.f ih tm m fun tm' m' => k tm' m' .none)⟩) (opdC E nt (.tmp t))) g.dst) (nthL ops j)
structure DsC where
  f : Fs → TM → Mem → (TM → Mem → List Did → R) → R
def drawL (ops : List Oper) (todo : List Oper) : DsC :=
  lrec (β := DsC) ⟨fun _ tm m k => k tm m []⟩ (fun o _ rest => DrC.rec (motive := fun _ => DsC) (fun f => ⟨fun ih tm m k => f ih tm m fun tm' m' d => rest.f ih tm' m' fun tm'' m'' ds => k tm'' m'' (d :: ds)⟩)
    (guardD E nt ops o (didC E nt o) (skipC nt o))) todo
def drawC (ops : Array Oper) : OpC := br (staticOk ops) (DsC.rec (motive := fun _ => OpC)
  (fun f => ⟨fun ih tm m k => f ih tm m fun tm' m' ds => br (allL (fun (p : Nat × Nat) => agreeAt ds p.1 p.2) (loudPairs ops)) (k tm' m') none⟩) (drawL E nt ops.toList ops.toList)) noC
end

/-! ### Code -/
structure Cl where
  f : Fs → Option Nat → TM → List Nat → Mem → (XE → TM → List Nat → Mem → R) → R
def LF : Nat := 100000
def xeNormal (e : XE) (y : R) (n : XE → R) : R := XE.rec (motive := fun _ => R) y (fun id => n (.exit id)) (fun l => n (.goto l)) (n .ret) e
def noCl : Cl := ⟨fun _ _ _ _ _ _ => none⟩

section
variable (E : Env) (nt : Nat)
def ofOp (c : OpC) : Cl := OpC.rec (motive := fun _ => Cl) (fun f => ⟨fun ih _ tm df m k => f ih tm m fun tm' m' => k .normal tm' df m'⟩) c
def seqC (a b : Cl) : Cl := ⟨fun ih rd tm df m k => a.f ih rd tm df m fun e tm' df' m' => xeNormal e (b.f ih rd tm' df' m' k) fun e => k e tm' df' m'⟩
def condC (c : Operand) (a b : Cl) : Cl := orec noCl (fun (c : Opd) => ⟨fun ih rd tm df m k => avBool (c.f tm) fun t => br t (a.f ih rd tm df m k) (b.f ih rd tm df m k)⟩) (opdC E nt c)
def blockC (id : Nat) (a : Cl) : Cl := ⟨fun ih rd tm df m k => a.f ih rd tm df m fun e tm' df' m' =>
  XE.rec (motive := fun _ => R) (k .normal tm' df' m') (fun id' => br (Nat.beq id' id) (k .normal tm' df' m') (k (.exit id') tm' df' m')) (fun l => k (.goto l) tm' df' m') (k .ret tm' df' m') e⟩
def loopC (a : Cl) : Cl := ⟨fun ih rd tm df m k =>
  nrec (β := TM → List Nat → Mem → R) (fun _ _ _ => none) (fun _ again tm df m => a.f ih rd tm df m fun e tm' df' m' => xeNormal e (again tm' df' m') fun e => k e tm' df' m') LF tm df m⟩
def scopeC (a : Cl) : Cl := ⟨fun ih rd tm df m k => a.f ih rd tm df m fun e tm' df' m' =>
  XE.rec (motive := fun _ => R) (k .normal tm' df' m') (fun id' => k (.exit id') tm' df' m') (fun _ => none) (k .ret tm' df' m') e⟩

/-- the record of a loop, for the pending jump: a jump is one of these -/
def jumpC (c : Code) (k : XE → R) : R := match c with
  | .ret => k .ret
  | .exit id => k (.exit id)
  | .goto l => k (.goto l)
  | _ => none
/-- behind a range over a function -/
def rangeEnd (l : Nat) (tm : TM) (df : List Nat) (m : Mem) (k : XE → TM → List Nat → Mem → R) : R := orec none (fun b => match b with
  | Bk.loop st p tm1 nt1 ps as bd d => (match st with
    | .busy => none
    | _ => put m l (.loop .exhausted p tm1 nt1 ps as bd d) fun m' => orec (k .normal tm df m') (fun c => jumpC c fun e => k e tm df m') p)
  | _ => none) (m.hp.get l)
def rangeGo (f : AV) (ps : List Tmp) (as bd : Code) (ih : Fs) (tm : TM) (df : List Nat) (m : Mem) (dl : Nat) (k : XE → TM → List Nat → Mem → R) : R :=
  avFn f (fun g caps => new m (.loop .ready none tm nt ps as bd dl) fun m' => ih.call g (.cons (.yld m.nx) caps) m' fun _ m'' => rangeEnd m.nx tm df m'' k) (fun _ => none)
def rangeC (f : Operand) (ps : List Tmp) (as bd : Code) : Cl := orec noCl (fun (f : Opd) => ⟨fun ih rd tm df m k => orec
    (new m .defd fun m' => rangeGo nt (f.f tm) ps as bd ih tm (m.nx :: df) m' m.nx k)
    (fun l => orec none (fun b => match b with
      | Bk.loop _ _ _ _ _ _ _ d => rangeGo nt (f.f tm) ps as bd ih tm df m d k
      | _ => none) (m.hp.get l)) rd⟩) (opdC E nt f)
def comp (c : Code) : Cl :=
  Code.rec (motive := fun _ => Cl)
    (⟨fun _ _ tm df m k => k .normal tm df m⟩)
    (fun _ ops d => br d (ofOp (drawC E nt ops)) (ofOp (regC E nt ops.toList ops.toList)))
    (fun _ _ a b => seqC a b)
    (fun c _ _ a b => condC E nt c a b)
    (fun id _ a => blockC id a)
    (fun _ a => loopC a)
    (fun f ps as bd _ _ => rangeC E nt f ps.toList as bd)
    (fun id => ⟨fun _ _ tm df m k => k (.exit id) tm df m⟩)
    (fun _ a => scopeC a)
    (fun _ => ⟨fun _ _ tm df m k => k .normal tm df m⟩)
    (fun l => ⟨fun _ _ tm df m k => k (.goto l) tm df m⟩)
    (⟨fun _ _ tm df m k => k .ret tm df m⟩)
    (fun _ => noCl) c
end

/-! ### Functions -/
/-- arguments into temporaries, from i on -/
def argsC (n : Nat) : AV → TM → Nat → (TM → R) → R :=
  nrec (β := AV → TM → Nat → (TM → R) → R) (fun _ _ _ _ => none)
    (fun _ ih l tm i k => avList l (k tm) fun h t => (putC i).f tm h fun tm' => ih t tm' (Nat.succ i) k) n
/-- a round's values into its loop's temporaries -/
def parC (nt : Nat) (ps : List Tmp) : AV → TM → (TM → R) → R :=
  lrec (β := AV → TM → (TM → R) → R) (fun l tm k => avList l (k tm) fun _ _ => none)
    (fun p _ ih l tm k => avCons l fun h t => orec none (fun (d : Put) => d.f tm h fun tm' => ih t tm' k) (dstC nt (some p))) ps
structure ResC where
  f : TM → Mem → (AV → R) → R
/-- the results, as a list -/
def resC (E : Env) (nt : Nat) (rs : List ResultVar) : ResC :=
  lrec (β := ResC) ⟨fun _ _ k => k .nl⟩ (fun r _ rest => match r with
    | .tmp t => orec ⟨fun _ _ _ => none⟩ (fun (x : Opd) => ⟨fun tm m k => rest.f tm m fun l => k (.cons (x.f tm) l)⟩) (opdC E nt (.tmp t))
    | .cell a t => orec ⟨fun _ _ _ => none⟩ (fun (x : Opd) => orec ⟨fun _ _ _ => none⟩ (fun s => ⟨fun tm m k => loadC s m (x.f tm) fun v => rest.f tm m fun l => k (.cons v l)⟩) (shape E t)) (opdC E nt (.tmp a))) rs
def mkRes (one : Bool) (vs : AV) (k : AV → R) : R := br one (avCons vs fun h _ => k h) (k (.tup vs))
def marks (df : List Nat) : Mem → (Mem → R) → R :=
  lrec (β := Mem → (Mem → R) → R) (fun m k => k m) (fun d _ ih m k => orec none (fun b => match b with | Bk.defd => kill m d fun m' => ih m' k | _ => none) (m.hp.get d)) df

def extern (j : Nat) (args : AV) (k : AV → R) : R := avCons args fun a t => br (isNl t)
  (br (Nat.beq j 0) (AV.rec (motive := fun _ => R) (fun _ _ => none) (fun _ => none) (fun _ _ => none) (fun _ _ _ _ => none) (fun _ _ => none) (fun _ => none) (fun _ _ _ => none) (fun _ => none) (fun _ => none) (fun _ _ => none)
      (fun v => match v with | .float .f64 b => k (.int .u64 (.ofNat b)) | _ => none) none (fun _ _ _ _ => none) a)
    (br (Nat.beq j 1) (avInt a fun j n => match j with | .u64 => k (.oth (.float .f64 n.toNat)) | _ => none) none)) none
structure FnC where
  f : Fs → AV → Mem → (AV → Mem → R) → R
def noFn : FnC := ⟨fun _ _ _ _ => none⟩
def isOne {α : Type} (l : List α) : Bool := lcs (β := Bool) false (fun _ t => lcs (β := Bool) true (fun _ _ => false) t) l
def xeEnd (e : XE) (y : R) : R := XE.rec (motive := fun _ => R) y (fun _ => none) (fun _ => none) y e
def fnC (E : Env) (f : FuncId) : FnC := orec noFn (fun (fn : Func) => orec
  (orec noFn (fun j => ⟨fun _ args m k => extern j args fun v => k v m⟩) (E.ext f))
  (fun c => br (Nat.ble fn.ntmps 512) (Cl.rec (motive := fun _ => FnC) (fun body => ResC.rec (motive := fun _ => FnC) (fun res =>
    ⟨fun ih args m k => br (Nat.ble (lenA args) fn.ntmps) (argsC 1000 args tm0 0 fun tm => body ih none tm [] m fun e tm' df m' => xeEnd e (marks df m' fun m'' => res tm' m'' fun vs => mkRes (isOne fn.results.toList) vs fun v => k v m'')) none⟩)
      (resC E fn.ntmps fn.results.toList)) (comp E fn.ntmps c)) noFn)
  fn.body) (E.funcs.get f)

def jumpOf (e : XE) : Option Code := XE.rec (motive := fun _ => Option Code) none (fun id => some (.exit id)) (fun l => some (.goto l)) (some .ret) e
def stOf (e : XE) : LoopState := XE.rec (motive := fun _ => LoopState) .ready (fun _ => .done) (fun _ => .done) .done e
def goesOn (e : XE) : Bool := XE.rec (motive := fun _ => Bool) true (fun _ => false) (fun _ => false) false e
def roundBody (E : Env) (l : Nat) (nt : Nat) (bd : Code) (ih : Fs) (tm : TM) (df : List Nat) (m : Mem) (k : AV → Mem → R) : R := orec none (fun b => match b with
  | Bk.loop st p tm1 nt1 ps1 as1 bd1 d => (match st with
    | .ready => put m l (.loop .busy p tm1 nt1 ps1 as1 bd1 d) fun m' => (comp E nt bd).f ih (some l) tm df m' fun e _ _ m'' => orec none (fun b => match b with
        | Bk.loop _ _ tm2 nt2 ps2 as2 bd2 d2 => put m'' l (.loop (stOf e) (jumpOf e) tm2 nt2 ps2 as2 bd2 d2) fun m3 => k (.bool (goesOn e)) m3
        | _ => none) (m''.hp.get l)
    | _ => none)
  | _ => none) (m.hp.get l)
def round1 (E : Env) (ih : Fs) (l : Nat) (args : AV) (m : Mem) (k : AV → Mem → R) : R := orec none (fun b => match b with
  | Bk.loop _ _ tm nt ps as bd _ => parC nt ps args tm fun tm' => (comp E nt as).f ih (some l) tm' [] m fun e tm'' df' m' => xeNormal e (roundBody E l nt bd ih tm'' df' m' k) fun _ => none
  | _ => none) (m.hp.get l)

def fs (E : Env) (n : Nat) : Fs :=
  nrec (β := Fs) { call := fun _ _ _ _ => none, round := fun _ _ _ _ => none }
    (fun _ ih => { call := fun f args m k => (fnC E f).f ih args m k, round := fun l args m k => round1 E ih l args m k }) n

/-- the environment of a program -/
def envOf (P : Program) (ext : FuncId → Option Nat) (plain : TypeId → Bool) (ng : Nat) : Env := { types := Tr.ofList 16 P.types.toList, funcs := Tr.ofList 16 P.funcs.toList, ext := ext, plain := plain, ng := ng }
def isTrueA (v : AV) : Bool :=
  AV.rec (motive := fun _ => Bool) (fun _ _ => false) (fun b => b) (fun _ _ => false) (fun _ _ _ _ => false) (fun _ _ => false) (fun _ => false) (fun _ _ _ => false) (fun _ => false) (fun _ => false) (fun _ _ => false) (fun _ => false) false (fun _ _ _ _ => false) v
/-- does a call come to true? -/
def isTrue (r : R) : Bool := orec false (fun x => VM.rec (motive := fun _ => Bool) (fun v _ => isTrueA v) x) r
/-- a closed call -/
def closed (E : Env) (depth : Nat) (f : FuncId) (args : AV) (nx : Nat) : R := (fs E depth).call f args ⟨.e, nx, 0⟩ fun v m => some (.mk v m)
end
end Go.Rx
