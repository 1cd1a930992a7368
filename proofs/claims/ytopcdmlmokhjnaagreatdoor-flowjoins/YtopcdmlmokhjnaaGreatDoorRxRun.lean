/-
  The executor's code, piece by piece: names for what comes behind a piece; plain laws of its words.
-/
import Derived.Test.YtopcdmlmokhjnaaGreatDoorRxDraw6
set_option linter.unusedVariables false
namespace Go.Rx
noncomputable section
abbrev KT := XE → TM → List Nat → Mem → R
def runC (c : Cl) (ih : Fs) (rd : Option Nat) (tm : TM) (df : List Nat) (m : Mem) (K : KT) : R := c.f ih rd tm df m K
def runO (c : OpC) (ih : Fs) (tm : TM) (m : Mem) (K : TM → Mem → R) : R := c.f ih tm m K
def runD (c : DsC) (ih : Fs) (tm : TM) (m : Mem) (K : TM → Mem → List Did → R) : R := c.f ih tm m K
def seqK (b : Cl) (ih : Fs) (rd : Option Nat) (K : KT) : KT := fun e tm df m => xeNormal e (b.f ih rd tm df m K) fun e => K e tm df m
def blkK (id : Nat) (K : KT) : KT := fun e tm df m =>
  XE.rec (motive := fun _ => R) (K .normal tm df m) (fun id' => br (Nat.beq id' id) (K .normal tm df m) (K (.exit id') tm df m)) (fun l => K (.goto l) tm df m) (K .ret tm df m) e
def scopeK (K : KT) : KT := fun e tm df m =>
  XE.rec (motive := fun _ => R) (K .normal tm df m) (fun id' => K (.exit id') tm df m) (fun _ => none) (K .ret tm df m) e
def loopN (a : Cl) (ih : Fs) (rd : Option Nat) (K : KT) (n : Nat) : TM → List Nat → Mem → R :=
  nrec (β := TM → List Nat → Mem → R) (fun _ _ _ => none) (fun _ again tm df m => a.f ih rd tm df m fun e tm' df' m' => xeNormal e (again tm' df' m') fun e => K e tm' df' m') n
def loopK (a : Cl) (ih : Fs) (rd : Option Nat) (K : KT) (n : Nat) : KT := fun e tm df m => xeNormal e (loopN a ih rd K n tm df m) fun e => K e tm df m
def regK (K : KT) (df : List Nat) : TM → Mem → R := fun tm m => K .normal tm df m
def topK (L : List (Nat × Nat)) (K : TM → Mem → R) : TM → Mem → List Did → R := fun tm m ds => br (allL (fun (p : Nat × Nat) => agreeAt ds p.1 p.2) L) (K tm m) none
def preK (d : Did) (K : TM → Mem → List Did → R) : TM → Mem → List Did → R := fun tm m ds => K tm m (d :: ds)
/-- behind a function's body -/
def retK (E : Env) (nt : Nat) (rs : List ResultVar) (k : AV → Mem → R) : KT := fun e tm df m =>
  xeEnd e (marks df m fun m' => (resC E nt rs).f tm m' fun vs => mkRes (isOne rs) vs fun v => k v m')
/-- what an operation in a drawn region did -/
def didK (m : Mem) (call : Bool) (m' : Mem) (k : Mem → Did → R) : R :=
  br (Nat.blt m'.lo m.nx) (br (Nat.ble m.lo m'.lo) (k ⟨m'.hp, m'.nx, m.lo⟩ (.heavy (some m'.lo) call)) (k m' (.heavy (some m'.lo) call))) (k ⟨m'.hp, m'.nx, m.lo⟩ (.heavy none call))
def lowM (m : Mem) : Mem := ⟨m.hp, m.nx, m.nx⟩
def mapUpdC (dk : TypeDesc) (m : Mem) (X K V : AV) (k : Mem → R) : R := avMap X (fun r => orec none (fun b => match b with
      | Bk.map es => updM dk K V es fun es' => put m r (.map es') k
      | _ => none) (m.hp.get r)) none
def lookCC (dk : TypeDesc) (z : AV) (ok : Bool) (m : Mem) (X K : AV) (k : AV → R) : R := avMap X
      (fun r => orec none (fun b => match b with
        | Bk.map es => findM dk K es fun q => k (br ok (.tup (.cons (orec z (fun v => v) q) (.cons (.bool (orec false (fun _ => true) q)) .nl))) (orec z (fun v => v) q))
        | _ => none) (m.hp.get r))
      (k (br ok (.tup (.cons z (.cons (.bool false) .nl))) z))
def child (i : Nat) (c : Code) : Code := match c with
  | .seq a b => (match i with | 0 => a | _ => b)
  | .cond _ a b => (match i with | 0 => a | _ => b)
  | .block _ a => a
  | .loop a => a
  | .scope a => a
  | .rangeFunc _ _ a b => (match i with | 0 => a | _ => b)
  | c => c
def nav (p : List Nat) (c : Code) : Code := lrec (β := Code → Code) (fun c => c) (fun i _ ih c => ih (child i c)) p c
def bodyOf (fn : Func) : Code := match fn.body with | some c => c | none => .skip
def isSeq (c : Code) : Bool := match c with | .seq .. => true | _ => false
def isCond (c : Code) : Bool := match c with | .cond .. => true | _ => false
def isBlock (c : Code) : Bool := match c with | .block .. => true | _ => false
def isLoop (c : Code) : Bool := match c with | .loop .. => true | _ => false
def isScope (c : Code) : Bool := match c with | .scope .. => true | _ => false
def isReg (c : Code) : Bool := match c with | .region _ _ false => true | _ => false
def isDrw (c : Code) : Bool := match c with | .region _ _ true => true | _ => false
def blkOf (c : Code) : Nat := match c with | .block id _ => id | _ => 0
def condOf (c : Code) : Operand := match c with | .cond x _ _ => x | _ => .tmp 0
def regCons (s rest : OpC) : OpC := OpC.rec (motive := fun _ => OpC) (fun f => ⟨fun ih tm m k => f ih tm m fun tm' m' => rest.f ih tm' m' k⟩) s
def drawCons (g : DrC) (rest : DsC) : DsC := DrC.rec (motive := fun _ => DsC) (fun f => ⟨fun ih tm m k => f ih tm m fun tm' m' d => rest.f ih tm' m' fun tm'' m'' ds => k tm'' m'' (d :: ds)⟩) g
def drawTop (L : List (Nat × Nat)) (d : DsC) : OpC := DsC.rec (motive := fun _ => OpC) (fun f => ⟨fun ih tm m k => f ih tm m fun tm' m' ds => br (allL (fun (p : Nat × Nat) => agreeAt ds p.1 p.2) L) (k tm' m') none⟩) d
def opAt (ops : List Oper) (i : Nat) : Oper := match nthL ops i with | some o => o | none => { dst := none, op := .move (.tmp 0), type := 0, pos := "", after := #[], guard := none }
def regStep (E : Env) (nt : Nat) (ops : List Oper) (i : Nat) : OpC := stepC E nt ops (opAt ops i)
def drawStep (E : Env) (nt : Nat) (ops : List Oper) (i : Nat) : DrC := guardD E nt ops (opAt ops i) (didC E nt (opAt ops i)) (skipC nt (opAt ops i))
def regOps (c : Code) : List Oper := match c with | .region _ ops _ => ops.toList | _ => []
def regArr (c : Code) : Array Oper := match c with | .region _ ops _ => ops | _ => #[]
end
variable {a b : Cl} {ih : Fs} {rd : Option Nat} {K : KT} {n id : Nat} {tm : TM} {df : List Nat} {m : Mem}
theorem loop_f : runC (loopC a) ih rd tm df m K = loopN a ih rd K LF tm df m := _root_.id rfl
theorem loopN_succ : loopN a ih rd K (n + 1) tm df m = runC a ih rd tm df m (loopK a ih rd K n) := rfl
theorem loopN_pos (h : 0 < n) : loopN a ih rd K n tm df m = runC a ih rd tm df m (loopK a ih rd K (n - 1)) := by
  cases n with
  | zero => omega
  | succ n => rfl
theorem loopK_normal : loopK a ih rd K n .normal tm df m = loopN a ih rd K n tm df m := _root_.id rfl
theorem loopK_exit : loopK a ih rd K n (.exit id) tm df m = K (.exit id) tm df m := _root_.id rfl
theorem loopK_goto : loopK a ih rd K n (.goto id) tm df m = K (.goto id) tm df m := _root_.id rfl
theorem loopK_ret : loopK a ih rd K n .ret tm df m = K .ret tm df m := _root_.id rfl
theorem regK_app : regK K df tm m = K .normal tm df m := _root_.id rfl
theorem topK_app {L : List (Nat × Nat)} {K : TM → Mem → R} {ds : List Did} : topK L K tm m ds = br (allL (fun (p : Nat × Nat) => agreeAt ds p.1 p.2) L) (K tm m) none := _root_.id rfl
theorem preK_app {d : Did} {K : TM → Mem → List Did → R} {ds : List Did} : preK d K tm m ds = K tm m (d :: ds) := _root_.id rfl
theorem seqK_normal : seqK b ih rd K .normal tm df m = runC b ih rd tm df m K := _root_.id rfl
theorem seqK_exit : seqK b ih rd K (.exit id) tm df m = K (.exit id) tm df m := _root_.id rfl
theorem seqK_goto : seqK b ih rd K (.goto id) tm df m = K (.goto id) tm df m := _root_.id rfl
theorem seqK_ret : seqK b ih rd K .ret tm df m = K .ret tm df m := _root_.id rfl
theorem blkK_normal : blkK id K .normal tm df m = K .normal tm df m := _root_.id rfl
theorem blkK_exit {id' : Nat} : blkK id K (.exit id') tm df m = br (Nat.beq id' id) (K .normal tm df m) (K (.exit id') tm df m) := _root_.id rfl
theorem blkK_goto {l : Nat} : blkK id K (.goto l) tm df m = K (.goto l) tm df m := _root_.id rfl
theorem blkK_ret : blkK id K .ret tm df m = K .ret tm df m := _root_.id rfl
theorem scopeK_normal : scopeK K .normal tm df m = K .normal tm df m := _root_.id rfl
theorem scopeK_exit : scopeK K (.exit id) tm df m = K (.exit id) tm df m := _root_.id rfl
theorem scopeK_ret : scopeK K .ret tm df m = K .ret tm df m := _root_.id rfl

section
variable {E : Env} {nt : Nat}
theorem comp_seq (c : Code) (h : isSeq c = true) : comp E nt c = seqC (comp E nt (child 0 c)) (comp E nt (child 1 c)) := by
  cases c with
  | seq a b => rfl
  | _ => cases h
theorem comp_cond (c : Code) (h : isCond c = true) : comp E nt c = condC E nt (condOf c) (comp E nt (child 0 c)) (comp E nt (child 1 c)) := by
  cases c with
  | cond x a b => rfl
  | _ => cases h
theorem comp_block (c : Code) (h : isBlock c = true) : comp E nt c = blockC (blkOf c) (comp E nt (child 0 c)) := by
  cases c with
  | block id a => rfl
  | _ => cases h
theorem comp_loop (c : Code) (h : isLoop c = true) : comp E nt c = loopC (comp E nt (child 0 c)) := by
  cases c with
  | loop a => rfl
  | _ => cases h
theorem comp_scope (c : Code) (h : isScope c = true) : comp E nt c = scopeC (comp E nt (child 0 c)) := by
  cases c with
  | scope a => rfl
  | _ => cases h
theorem comp_reg (c : Code) (h : isReg c = true) : comp E nt c = ofOp (regC E nt (regOps c) (regOps c)) := by
  cases c with
  | region id ops d =>
    cases d with
    | false => rfl
    | true => cases h
  | _ => cases h
theorem comp_drw (c : Code) (h : isDrw c = true) : comp E nt c = ofOp (drawC E nt (regArr c)) := by
  cases c with
  | region id ops d =>
    cases d with
    | true => rfl
    | false => cases h
  | _ => cases h
theorem nthL_drop {α : Type} {l : List α} {i : Nat} {o : α} (h : nthL l i = some o) : dropL i l = o :: dropL (i + 1) l := by
  induction i generalizing l with
  | zero =>
    cases l with
    | nil => cases h
    | cons x l => cases h; rfl
  | succ i ih =>
    cases l with
    | nil => rw [nthL_eq] at h; simp at h
    | cons x l => exact ih (l := l) h
noncomputable def hasN {α : Type} (l : List α) (i : Nat) : Bool := match nthL l i with | some _ => true | none => false
theorem regC_drop (ops : List Oper) (i : Nat) (h : hasN ops i = true) : regC E nt ops (dropL i ops) = regCons (regStep E nt ops i) (regC E nt ops (dropL (i + 1) ops)) := by
  unfold hasN at h
  cases hn : nthL ops i with
  | none => rw [hn] at h; cases h
  | some o =>
    rw [nthL_drop hn]
    have e : regStep E nt ops i = stepC E nt ops o := by unfold regStep opAt; rw [hn]
    rw [e]; rfl
theorem drawL_drop (ops : List Oper) (i : Nat) (h : hasN ops i = true) : drawL E nt ops (dropL i ops) = drawCons (drawStep E nt ops i) (drawL E nt ops (dropL (i + 1) ops)) := by
  unfold hasN at h
  cases hn : nthL ops i with
  | none => rw [hn] at h; cases h
  | some o =>
    rw [nthL_drop hn]
    have e : drawStep E nt ops i = guardD E nt ops o (didC E nt o) (skipC nt o) := by unfold drawStep opAt; rw [hn]
    rw [e]; rfl
theorem drawC_top (ops : Array Oper) (h : staticOk ops = true) {L : List (Nat × Nat)} (hL : loudPairs ops = L) : drawC E nt ops = drawTop L (drawL E nt ops.toList ops.toList) := by
  subst hL
  unfold drawC
  rw [h]; rfl
theorem drawC_reg (c : Code) (h : isDrw c = true) (hs : staticOk (regArr c) = true) {L : List (Nat × Nat)} (hL : loudPairs (regArr c) = L) : comp E nt c = ofOp (drawTop L (drawL E nt (regOps c) (regOps c))) := by
  rw [comp_drw c h, drawC_top _ hs hL]
  cases c with
  | region id ops d => rfl
  | _ => cases h
theorem fnC_f {f : FuncId} {fn : Func} {c : Code} {ih : Fs} {args : AV} {m : Mem} {k : AV → Mem → R} (hf : E.funcs.get f = some fn) (hb : fn.body = some c) (hn : Nat.ble fn.ntmps 512 = true) :
    (fnC E f).f ih args m k = br (Nat.ble (lenA args) fn.ntmps) (argsC 1000 args tm0 0 fun tm => (comp E fn.ntmps c).f ih none tm [] m (retK E fn.ntmps fn.results.toList k)) none := by
  unfold fnC
  rw [hf]
  show (orec (orec noFn (fun j => (⟨fun _ args m k => extern j args fun v => k v m⟩ : FnC)) (E.ext f)) (fun c => br (Nat.ble fn.ntmps 512) (Cl.rec (motive := fun _ => FnC) (fun body => ResC.rec (motive := fun _ => FnC) (fun res =>
        ⟨fun ih args m k => br (Nat.ble (lenA args) fn.ntmps) (argsC 1000 args tm0 0 fun tm => body ih none tm [] m fun e tm' df m' => xeEnd e (marks df m' fun m'' => res tm' m'' fun vs => mkRes (isOne fn.results.toList) vs fun v => k v m'')) none⟩)
          (resC E fn.ntmps fn.results.toList)) (comp E fn.ntmps c)) noFn) fn.body).f ih args m k = _
  rw [hb]
  show (br (Nat.ble fn.ntmps 512) (Cl.rec (motive := fun _ => FnC) (fun body => ResC.rec (motive := fun _ => FnC) (fun res =>
        ⟨fun ih args m k => br (Nat.ble (lenA args) fn.ntmps) (argsC 1000 args tm0 0 fun tm => body ih none tm [] m fun e tm' df m' => xeEnd e (marks df m' fun m'' => res tm' m'' fun vs => mkRes (isOne fn.results.toList) vs fun v => k v m'')) none⟩)
          (resC E fn.ntmps fn.results.toList)) (comp E fn.ntmps c)) noFn).f ih args m k = _
  rw [hn]
  unfold retK
  generalize resC E fn.ntmps fn.results.toList = rs
  generalize comp E fn.ntmps c = cc
  cases rs; cases cc; rfl
theorem fnC_x {f : FuncId} {fn : Func} {c : Code} {nt : Nat} {rs : List ResultVar} {ih : Fs} {args : AV} {m : Mem} {k : AV → Mem → R} (X : Cl) (hX : comp E nt c = X) (hf : E.funcs.get f = some fn) (hb : fn.body = some c) (hn : fn.ntmps = nt) (hr : fn.results.toList = rs) (h : Nat.ble nt 512 = true) :
    (fnC E f).f ih args m k = br (Nat.ble (lenA args) nt) (argsC 1000 args tm0 0 fun tm => X.f ih none tm [] m (retK E nt rs k)) none := by
  subst hn hr hX
  exact fnC_f hf hb h
end
end Go.Rx
