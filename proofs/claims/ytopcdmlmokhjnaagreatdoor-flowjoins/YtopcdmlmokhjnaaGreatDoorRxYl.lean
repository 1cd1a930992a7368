/-
  What the executor's functions in passing style hand on does not hang on what it is handed to.
-/
import Derived.Test.YtopcdmlmokhjnaaGreatDoorRxHeap
set_option linter.unusedVariables false
namespace Go.Rx

def Yl {β : Type} (f : (β → R) → R) : Prop := ∀ k r, f k = some r → ∃ b, (∀ k', f k' = k' b) ∧ k b = some r
section
variable {α β γ : Type}
theorem yl_pure (b : β) : Yl (fun k => k b) := fun _ _ h => ⟨b, fun _ => rfl, h⟩
theorem yl_none : Yl (β := β) (fun _ => none) := fun _ _ h => nomatch h
theorem yl_bind {f : (α → R) → R} {g : α → (β → R) → R} (hf : Yl f) (hg : ∀ a, Yl (g a)) : Yl (fun k => f fun a => g a k) := by
  intro k r h
  obtain ⟨a, ha, h⟩ := hf _ _ h
  obtain ⟨b, hb, h⟩ := hg a _ _ h
  exact ⟨b, fun k' => by show f (fun a => g a k') = _; rw [ha]; exact hb k', h⟩
theorem yl_map {f : (α → R) → R} (hf : Yl f) (g : α → β) : Yl (fun k => f fun a => k (g a)) := yl_bind hf fun a => yl_pure (g a)
theorem yl_br {f g : (β → R) → R} (b : Bool) (hf : Yl f) (hg : Yl g) : Yl (fun k => br b (f k) (g k)) := by cases b; exact hg; exact hf
theorem yl_orec {o : Option α} {d : (β → R) → R} {f : α → (β → R) → R} (hd : Yl d) (hf : ∀ a, Yl (f a)) : Yl (fun k => orec (d k) (fun a => f a k) o) := by cases o; exact hd; exact hf _
theorem yl_ite {f g : (β → R) → R} (c : Prop) [Decidable c] (hf : Yl f) (hg : Yl g) : Yl (fun k => if c then f k else g k) := by split; exact hf; exact hg
end
/-- what is handed on by both -/
theorem Yl.val {β : Type} {f : (β → R) → R} {b : β} (h : ∀ k', f k' = k' b) {c : β} {g : β → R} {r : VM} (hc : f g = some r) : g b = some r := by rw [h] at hc; exact hc

section values
variable {β : Type} (v : AV)
theorem yl_avInt {g : IntKind → Int → (β → R) → R} (hg : ∀ j n, Yl (g j n)) : Yl (fun k => avInt v fun j n => g j n k) := by cases v <;> first | exact hg _ _ | exact yl_none
theorem yl_avBool {g : Bool → (β → R) → R} (hg : ∀ b, Yl (g b)) : Yl (fun k => avBool v fun b => g b k) := by cases v <;> first | exact hg _ | exact yl_none
theorem yl_avPtr {g : Nat → Nat → (β → R) → R} (hg : ∀ b o, Yl (g b o)) : Yl (fun k => avPtr v fun b o => g b o k) := by cases v <;> first | exact hg _ _ | exact yl_none
theorem yl_avSlc {g : Nat → Nat → Nat → Nat → (β → R) → R} {z : Nat → Nat → (β → R) → R} (hg : ∀ b o l c, Yl (g b o l c)) (hz : ∀ l c, Yl (z l c)) : Yl (fun k => avSlc v (fun b o l c => g b o l c k) (fun l c => z l c k)) := by
  cases v with
  | slc b o l c => exact hg _ _ _ _
  | oth v => cases v with
    | slice a l c => cases a with | none => exact hz _ _ | some a => exact yl_none
    | _ => exact yl_none
  | _ => exact yl_none
theorem yl_avAgg {g : AV → (β → R) → R} (hg : ∀ b, Yl (g b)) : Yl (fun k => avAgg v fun b => g b k) := by cases v <;> first | exact hg _ | exact yl_none
theorem yl_avTup {g : AV → (β → R) → R} (hg : ∀ b, Yl (g b)) : Yl (fun k => avTup v fun b => g b k) := by cases v <;> first | exact hg _ | exact yl_none
theorem yl_avStr {g : List UInt8 → (β → R) → R} (hg : ∀ b, Yl (g b)) : Yl (fun k => avStr v fun b => g b k) := by cases v <;> first | exact hg _ | exact yl_none
theorem yl_avStrSlc {s : List UInt8 → (β → R) → R} {g : Nat → Nat → Nat → Nat → (β → R) → R} {z : Nat → Nat → (β → R) → R} (hs : ∀ x, Yl (s x)) (hg : ∀ b o l c, Yl (g b o l c)) (hz : ∀ l c, Yl (z l c)) :
    Yl (fun k => avStrSlc v (fun x => s x k) (fun b o l c => g b o l c k) (fun l c => z l c k)) := by
  cases v with
  | str x => exact hs _
  | slc b o l c => exact hg _ _ _ _
  | oth v => cases v with
    | slice a l c => cases a with | none => exact hz _ _ | some a => exact yl_none
    | _ => exact yl_none
  | _ => exact yl_none
theorem yl_avCons {g : AV → AV → (β → R) → R} (hg : ∀ x t, Yl (g x t)) : Yl (fun k => avCons v fun x t => g x t k) := by cases v <;> first | exact hg _ _ | exact yl_none
theorem yl_natBelow (lt : Nat) {g : Nat → (β → R) → R} (hg : ∀ n, Yl (g n)) : Yl (fun k => natBelow v lt fun n => g n k) := by
  refine yl_avInt v fun j n => ?_
  cases n with
  | ofNat n => exact yl_br _ (hg n) yl_none
  | negSucc n => exact yl_none
theorem yl_cellsK : Yl (cellsK v) := by
  cases v with
  | oth x => cases x <;> first | exact yl_none | exact yl_pure _
  | _ => first | exact yl_none | exact yl_pure _
theorem yl_isNil : Yl (isNil v) := by
  cases v with
  | oth x =>
    cases x with
    | pointer a => cases a <;> first | exact yl_pure _ | exact yl_none
    | slice a _ _ => cases a <;> first | exact yl_pure _ | exact yl_none
    | map a => cases a <;> first | exact yl_pure _ | exact yl_none
    | _ => first | exact yl_pure _ | exact yl_none
  | _ => first | exact yl_none | exact yl_pure _
end values
theorem yl_dropA (n : Nat) (a : AV) : Yl (dropA n a) := by
  induction n generalizing a with
  | zero => exact yl_pure a
  | succ n ih => exact yl_avCons a fun _ t => ih t
theorem yl_takeA (n : Nat) (a : AV) : Yl (takeA n a) := by
  induction n generalizing a with
  | zero => exact yl_pure AV.nl
  | succ n ih => exact yl_avCons a fun x t => yl_map (ih t) (AV.cons x)
theorem yl_overA (xs a : AV) : Yl (overA xs a) := by
  induction xs generalizing a with
  | nl => exact yl_pure a
  | cons x t _ ih => exact yl_avCons a fun _ u => yl_map (ih u) (AV.cons x)
  | _ => exact yl_none
theorem yl_spliceA (xs : AV) (n : Nat) (a : AV) : Yl (spliceA xs n a) := by
  induction n generalizing a with
  | zero => exact yl_overA xs a
  | succ n ih => exact yl_avCons a fun x t => yl_map (ih t) (AV.cons x)
section mem
variable (m : Mem)
theorem yl_rd (b o n : Nat) : Yl (rd m b o n) := by
  refine yl_orec yl_none fun x => ?_
  cases x with
  | cells vs ext => exact yl_bind (yl_dropA o vs) fun l => yl_takeA n l
  | _ => exact yl_none
theorem yl_rd1 (b o : Nat) : Yl (rd1 m b o) := by
  refine yl_orec yl_none fun x => ?_
  cases x with
  | cells vs ext => exact yl_bind (yl_dropA o vs) fun l => yl_avCons l fun h _ => yl_pure h
  | _ => exact yl_none
theorem yl_setLo (b : Nat) (hp : Tr Bk) : Yl (setLo m b hp) := yl_br _ (yl_pure _) (yl_pure _)
theorem yl_wr (b o : Nat) (xs : AV) : Yl (wr m b o xs) := by
  refine yl_orec yl_none fun x => ?_
  cases x with
  | cells vs ext => exact yl_bind (yl_spliceA xs o vs) fun l => yl_setLo m b _
  | _ => exact yl_none
theorem yl_new (b : Bk) : Yl (new m b) := yl_pure _
theorem yl_kill (b : Nat) : Yl (kill m b) := yl_setLo m b _
theorem yl_put (b : Nat) (x : Bk) : Yl (put m b x) := yl_setLo m b _
theorem yl_loadC (s : Shape) (a : AV) : Yl (loadC s m a) := by
  refine yl_avPtr a fun b o => ?_
  cases s with
  | one => exact yl_rd1 m b o
  | many n => exact yl_map (yl_rd m b o n) AV.agg
theorem yl_storeC (n : Nat) (a v : AV) : Yl (storeC n m a v) := yl_avPtr a fun b o => yl_bind (yl_cellsK v) fun cs => yl_br _ (yl_wr m b o cs) yl_none
theorem yl_partC (s : Shape) (cs : AV) (off : Nat) : Yl (partC s cs off) := by
  cases s with
  | one => exact yl_bind (g := fun l k => avCons l fun h _ => k h) (yl_dropA off cs) fun l => yl_avCons l fun h _ => yl_pure h
  | many n => exact yl_bind (g := fun l k => takeA n l fun r => k (AV.agg r)) (yl_dropA off cs) fun l => yl_map (yl_takeA n l) AV.agg
theorem yl_capKnown {β : Type} (b : Nat) {f : (β → R) → R} {u : Nat → (β → R) → R} (hf : Yl f) (hu : ∀ e, Yl (u e)) : Yl (fun k => capKnown m b (f k) (fun e => u e k)) := by
  refine yl_orec yl_none fun x => ?_
  cases x with
  | cells vs ext => exact yl_orec hf hu
  | _ => exact yl_none
theorem yl_optN {β : Type} (v : Option AV) (d most : Nat) {g : Nat → (β → R) → R} (hg : ∀ n, Yl (g n)) : Yl (fun k => optN v d most fun n => g n k) := by
  cases v with
  | none => exact yl_br _ (hg d) yl_none
  | some v => exact yl_natBelow v _ hg
theorem yl_elems (size n : Nat) (x : AV) : Yl (elems m size n x) := yl_avStrSlc x (fun s => yl_br _ (yl_pure _) yl_none) (fun b o _ _ => yl_br _ (yl_pure _) (yl_rd m b o _)) (fun _ _ => yl_br _ (yl_pure _) yl_none)
end mem
theorem yl_lenOf (x : AV) : Yl (lenOf x) := yl_avStrSlc x (fun s => yl_pure _) (fun _ _ n _ => yl_pure n) (fun n _ => yl_pure n)
theorem yl_eqInts (n : Nat) (x y : AV) : Yl (eqInts n x y) := by
  induction n generalizing x y with
  | zero => exact yl_pure true
  | succ n ih => exact yl_avCons x fun a xt => yl_avCons y fun b yt => yl_avInt a fun j p => yl_avInt b fun j' q => yl_br _ (yl_br _ (ih xt yt) (yl_pure false)) yl_none
theorem yl_eqBool (x y : AV) : Yl (eqBool x y) := yl_avBool x fun a => yl_avBool y fun b => yl_pure _
theorem yl_sameK (d : TypeDesc) (x y : AV) : Yl (sameK d x y) := by
  cases d with
  | int k => exact yl_avInt x fun j a => yl_avInt y fun j' b => yl_br _ (yl_pure _) yl_none
  | string => exact yl_avStr x fun a => yl_avStr y fun b => yl_pure _
  | _ => exact yl_none
theorem yl_findM (d : TypeDesc) (x : AV) (es : List (AV × AV)) : Yl (findM d x es) := by
  induction es with
  | nil => exact yl_pure none
  | cons h t ih => exact yl_bind (g := fun b k => br b (k (some h.2)) (findM d x t k)) (yl_sameK d x h.1) fun b => yl_br b (yl_pure _) ih
theorem yl_updM (d : TypeDesc) (x v : AV) (es : List (AV × AV)) : Yl (updM d x v es) := by
  induction es with
  | nil => exact yl_pure _
  | cons h t ih => exact yl_bind (g := fun b k => br b (k ((x, v) :: t)) (updM d x v t fun r => k (h :: r))) (yl_sameK d x h.1) fun b => yl_br b (yl_pure _) (yl_map ih (h :: ·))
theorem yl_fillA (ps : List (Nat × Nat × AV)) (cs : AV) : Yl (fillA ps cs) := by
  induction ps generalizing cs with
  | nil => exact yl_pure cs
  | cons p ps ih => exact yl_bind (g := fun xs k => br (Nat.beq (lenA xs) p.2.1) (spliceA xs p.1 cs fun cs' => fillA ps cs' k) none) (yl_cellsK p.2.2) fun xs => yl_br _ (yl_bind (yl_spliceA xs p.1 cs) fun cs' => ih cs') yl_none
theorem yl_toBytes (l : AV) : Yl (toBytes l) := by
  induction l with
  | nl => exact yl_pure []
  | cons h t _ ih =>
    refine yl_avInt h fun j n => ?_
    cases j with
    | u8 => exact yl_map ih _
    | _ => exact yl_none
  | _ => exact yl_none
theorem yl_intOp (op : BinOp) (j : IntKind) (a : Int) (j' : IntKind) (b : Int) : Yl (intOp op j a j' b) := yl_orec yl_none fun v => yl_br _ (yl_pure _) yl_none
theorem yl_natOp (op : BinOp) (j j' : IntKind) (a b : Nat) {s : (AV → R) → R} (hs : Yl s) : Yl (fun k => natOp op j j' a b (s k) k) := by
  cases op with
  | add => cases j with
    | i64 => cases j' with
      | i64 => exact yl_br _ (yl_pure _) hs
      | _ => exact hs
    | _ => exact hs
  | eql => exact yl_br _ (yl_pure _) yl_none
  | neq => exact yl_br _ (yl_pure _) yl_none
  | lss => exact yl_br _ (yl_pure _) yl_none
  | leq => exact yl_br _ (yl_pure _) yl_none
  | gtr => exact yl_br _ (yl_pure _) yl_none
  | geq => exact yl_br _ (yl_pure _) yl_none
  | _ => exact hs
theorem yl_intOp' (op : BinOp) (j : IntKind) (a : Int) (j' : IntKind) (b : Int) : Yl (intOp' op j a j' b) := by
  cases a with
  | ofNat a => cases b with
    | ofNat b => exact yl_natOp op j j' a b (yl_intOp op j _ j' _)
    | negSucc b => exact yl_intOp op j _ j' _
  | negSucc a => exact yl_intOp op j _ j' _
theorem yl_strOp (op : BinOp) (x y : List UInt8) : Yl (strOp op x y) := by
  cases op <;> first | exact yl_pure _ | exact yl_br _ (yl_pure _) yl_none | exact yl_none
theorem yl_eqOrNot (op : BinOp) (b : Bool) : Yl (eqOrNot op b) := by
  cases op <;> first | exact yl_pure _ | exact yl_none
theorem yl_eqC (E : Env) (t : TypeId) (x y : AV) : Yl (eqC E t x y) := by
  refine yl_orec yl_none fun d => ?_
  have hdef : ∀ d, Yl (fun k => br (isNilAt d x) (br (someAt d y) (isNil y k) none) (br (isNilAt d y) (br (someAt d x) (isNil x k) none) none)) :=
    fun d => yl_br _ (yl_br _ (yl_isNil y) yl_none) (yl_br _ (yl_br _ (yl_isNil x) yl_none) yl_none)
  cases d with
  | bool => exact yl_eqBool x y
  | array n el =>
    refine yl_br _ (yl_orec yl_none fun e => ?_) yl_none
    cases e with
    | int k => exact yl_orec yl_none fun s => yl_br _ (yl_avAgg x fun xs => yl_avAgg y fun ys => yl_eqInts n xs ys) yl_none
    | _ => exact yl_none
  | _ => exact hdef _
theorem yl_fltOp (op : BinOp) (x y : Value) : Yl (fltOp op x y) := by
  cases x with
  | float => cases y with
    | float => exact yl_orec yl_none fun v => yl_br _ (yl_pure _) yl_none
    | _ => exact yl_none
  | _ => exact yl_none
theorem yl_binC (E : Env) (op : BinOp) (t : TypeId) (x y : AV) : Yl (binC E op t x y) := by
  have hdef : Yl (fun k => eqC E t x y fun b => eqOrNot op b k) := yl_bind (yl_eqC E t x y) fun b => yl_eqOrNot op b
  cases x with
  | int j a => exact yl_avInt y fun j' b => yl_intOp' op j a j' b
  | str s => exact yl_avStr y fun s' => yl_strOp op s s'
  | oth v =>
    cases v with
    | float j a => cases y with
      | oth v' => exact yl_fltOp op _ v'
      | _ => exact yl_none
    | _ => exact hdef
  | bool => exact hdef
  | ptr => exact hdef
  | slc => exact hdef
  | agg => exact hdef
  | fn => exact hdef
  | yld => exact hdef
  | map => exact hdef
  | _ => exact yl_none
theorem yl_unC (op : UnOp) (x : AV) : Yl (unC op x) := by
  cases x with
  | int j a => exact yl_orec yl_none fun v => yl_br _ (yl_pure _) yl_none
  | bool b => cases op <;> first | exact yl_pure _ | exact yl_none
  | oth v => cases v with
    | float j a => exact yl_orec yl_none fun v => yl_br _ (yl_pure _) yl_none
    | _ => exact yl_none
  | _ => exact yl_none
theorem yl_minMax (b : Builtin) (x y : AV) : Yl (minMax b x y) := by
  refine yl_avInt x fun j a => yl_avInt y fun _ c => ?_
  cases b <;> first | exact yl_pure _ | exact yl_none
theorem yl_slcStr (s : List UInt8) (lo hi : Option AV) : Yl (slcStr s lo hi) := yl_optN hi _ _ fun h => yl_optN lo _ _ fun l => yl_pure _
theorem yl_slcSlc (m : Mem) (n b o len cap : Nat) (lo hi : Option AV) : Yl (slcSlc m n b o len cap lo hi) :=
  yl_optN hi _ _ fun h => yl_optN lo _ _ fun l => yl_br _ (yl_pure _) (yl_br _ (yl_capKnown m b (yl_pure _) fun _ => yl_br _ (yl_pure _) yl_none) (yl_capKnown m b (yl_pure _) fun _ => yl_none))
theorem yl_slcNil (lo hi : Option AV) (len cap : Nat) : Yl (slcNil lo hi len cap) := yl_br _ (yl_br _ (yl_optN hi _ _ fun _ => yl_optN lo _ _ fun _ => yl_pure _) yl_none) yl_none
theorem yl_slcArr (n len b o : Nat) (lo hi : Option AV) : Yl (slcArr n len b o lo hi) := yl_optN hi _ _ fun h => yl_optN lo _ _ fun l => yl_pure _

/-- the same for what hands on a value and a heap -/
def Yl2 {α β : Type} (f : (α → β → R) → R) : Prop := ∀ k r, f k = some r → ∃ a b, (∀ k', f k' = k' a b) ∧ k a b = some r
section
variable {α β γ : Type}
theorem yl2_pure (a : α) (b : β) : Yl2 (fun k => k a b) := fun _ _ h => ⟨a, b, fun _ => rfl, h⟩
theorem yl2_none : Yl2 (α := α) (β := β) (fun _ => none) := fun _ _ h => nomatch h
theorem yl2_bind {f : (γ → R) → R} {g : γ → (α → β → R) → R} (hf : Yl f) (hg : ∀ a, Yl2 (g a)) : Yl2 (fun k => f fun a => g a k) := by
  intro k r h
  obtain ⟨c, hc, h⟩ := hf _ _ h
  obtain ⟨a, b, hb, h⟩ := hg c _ _ h
  exact ⟨a, b, fun k' => by show f (fun c => g c k') = _; rw [hc]; exact hb k', h⟩
theorem yl2_br {f g : (α → β → R) → R} (b : Bool) (hf : Yl2 f) (hg : Yl2 g) : Yl2 (fun k => br b (f k) (g k)) := by cases b; exact hg; exact hf
theorem yl2_orec {o : Option γ} {d : (α → β → R) → R} {f : γ → (α → β → R) → R} (hd : Yl2 d) (hf : ∀ a, Yl2 (f a)) : Yl2 (fun k => orec (d k) (fun a => f a k) o) := by cases o; exact hd; exact hf _
theorem yl2_avSlc (v : AV) {g : Nat → Nat → Nat → Nat → (α → β → R) → R} {z : Nat → Nat → (α → β → R) → R} (hg : ∀ b o l c, Yl2 (g b o l c)) (hz : ∀ l c, Yl2 (z l c)) : Yl2 (fun k => avSlc v (fun b o l c => g b o l c k) (fun l c => z l c k)) := by
  cases v with
  | slc b o l c => exact hg _ _ _ _
  | oth v => cases v with
    | slice a l c => cases a with | none => exact hz _ _ | some a => exact yl2_none
    | _ => exact yl2_none
  | _ => exact yl2_none
theorem yl2_capKnown (m : Mem) (b : Nat) {f : (α → β → R) → R} {u : Nat → (α → β → R) → R} (hf : Yl2 f) (hu : ∀ e, Yl2 (u e)) : Yl2 (fun k => capKnown m b (f k) (fun e => u e k)) := by
  refine yl2_orec yl2_none fun x => ?_
  cases x with
  | cells vs ext => exact yl2_orec hf hu
  | _ => exact yl2_none
end
theorem yl2_grow (m : Mem) (size : Nat) (old xs : AV) (need : Nat) : Yl2 (grow m size old xs need) := yl2_br _ (yl2_bind (yl_new m _) fun m' => yl2_pure _ m') yl2_none
theorem yl2_app (m : Mem) (size : Nat) (s x : AV) : Yl2 (app m size s x) :=
  yl2_bind (yl_lenOf x) fun n => yl2_bind (yl_elems m size n x) fun xs => yl2_avSlc s
    (fun b o len cap => yl2_br _ (yl2_br _ (yl2_pure _ _) (yl2_bind (yl_wr m b _ xs) fun m' => yl2_pure _ m'))
      (yl2_bind (yl_elems m size len s) fun old => yl2_capKnown m b (yl2_grow m size old xs _) fun es => yl2_br _ (yl2_bind (yl_kill m b) fun m' => yl2_grow m' size old xs _) yl2_none))
    (fun len cap => yl2_br _ (yl2_br _ (yl2_br _ (yl2_pure _ _) (yl2_grow m size _ xs n)) yl2_none) yl2_none)
theorem yl2_copyC (m : Mem) (size : Nat) (d x : AV) : Yl2 (copyC m size d x) :=
  yl2_bind (yl_lenOf x) fun sl => yl2_avSlc d
    (fun b o dl _ => yl2_bind (yl_elems m size (minN sl dl) x) fun xs => yl2_br _ (yl2_pure _ _) (yl2_bind (yl_wr m b o xs) fun m' => yl2_pure _ m'))
    (fun dl _ => yl2_br _ (yl2_pure _ _) yl2_none)
end Go.Rx
