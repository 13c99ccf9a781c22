/- A part of the proof: lemmas; nothing is claimed here. -/
import Derived.RangeFuncOwn
import Derived.Below
import Derived.KernelRfl
import Derived.Laws.World
import Derived.Orders
set_option linter.all false
namespace Go.Wf
open Go Go.RowKit

/-! ### Environments -/
abbrev Env := Nat → Value
def upd (e : Env) (d : Option Nat) (v : Value) : Env := match d with
  | some d => fun t => cond (Nat.beq t d) v (e t)
  | none => e
def ev (e : Env) : Operand → Value
  | .tmp t => e t
  | .const v => v
  | .global g => .pointer (some ⟨g, 0, none⟩)
  | .func f => .func (.func f) #[] #[]

/-- The head of block b. -/
abbrev bx (b : Nat) : Addr := ⟨b, 0, none⟩

/-! ### What is told of types -/
structure TI where
  ty : Type
  val : ty → Value
  of : Value → Option ty
  zero : Option (Array Value) := none
  sz : Option Nat := none
  offs : List (Option Nat) := []
  esz : Option Nat := none
  etid : Nat := 0
  alen : Option Nat := none
  ezero : Option (List Value) := none
  conc : Bool := false
  ifc : Bool := false
  nk : Nat := 0
  ik : Option IntKind := none
  places : Option (List (Nat × Nat)) := none
instance : Inhabited TI := ⟨{ ty := Empty, val := fun _ => undef, of := fun _ => none }⟩
structure TT where
  ti : Nat → TI
  fn : Nat → Bool

def ifK (b : Bool) (A B : Prop) : Prop := match b with
  | true => A
  | false => B
theorem ifK.mk {b : Bool} {A B : Prop} (h1 : b = true → A) (h2 : b = false → B) : ifK b A B := by
  cases b
  · exact h2 rfl
  · exact h1 rfl

/-! ### Worlds -/
/-- Blocks outside M are as they were; no block has gone. -/
structure Step (M : Nat → Prop) (w w' : World) : Prop where
  os : w'.os = w.os
  tape : w'.tape = w.tape
  output : w'.output = w.output
  size : w.heap.size ≤ w'.heap.size
  block : ∀ k, k < w.heap.size → ¬ M k → w'.heap[k]? = w.heap[k]?
def none_ : Nat → Prop := fun _ => False
abbrev Ext (w w' : World) : Prop := Step none_ w w'

def adK (v : Value) (k : Addr → Prop) : Prop := match v with
  | .pointer (some a) => k a
  | _ => False
def CellsAt (w : World) (a : Addr) (l : List Value) : Prop := ∀ i v, l[i]? = some v → w.cell? (a.add i) = some v
/-- A new block. -/
def NewK (o : Obj) (w : World) (k : Nat → World → Prop) : Prop :=
  ∀ w', Ext w w' → w'.heap.size = w.heap.size + 1 → w'.heap[w.heap.size]? = some o → k w.heap.size w'
/-- Cells are written. -/
structure Wrote (a : Addr) (l : List Value) (w w' : World) : Prop where
  os : w'.os = w.os
  tape : w'.tape = w.tape
  output : w'.output = w.output
  size : w'.heap.size = w.heap.size
  other : ∀ k, k ≠ a.block → w'.heap[k]? = w.heap[k]?
  cells : ∀ cs t fr, w.heap[a.block]? = some (.cells cs t fr) → ∃ cs', w'.heap[a.block]? = some (.cells cs' t fr) ∧ cs'.size = cs.size ∧
    ∀ j, cs'[j]? = if a.off ≤ j ∧ j < a.off + l.length then l[j - a.off]? else cs[j]?
def StoreK (a : Addr) (l : List Value) (w : World) (k : World → Prop) : Prop :=
  (a.spot = none ∧ ∃ cs t lo hi, w.heap[a.block]? = some (.cells cs t (lo, hi)) ∧ a.off + l.length ≤ cs.size ∧ (∀ j, a.off ≤ j → j < a.off + l.length → (lo ≤ j && j < hi) = false)) ∧
  ∀ w', Wrote a l w w' → k w'

def Ret (k : Value → World → Prop) : Ending → World → Prop
  | .returned v, w => k v w
  | _, _ => False

def stoK (b : Bool) (A : Prop) : Prop := match b with
  | true => A
  | false => False
theorem stoK.mk {b : Bool} {A : Prop} (h : b = true) (hA : A) : stoK b A := by subst h; exact hA
theorem stoK.out {b : Bool} {A : Prop} (h : stoK b A) : b = true ∧ A := by
  cases b
  · exact h.elim
  · exact ⟨rfl, h⟩
/-- The general rule: the operation is run. -/
def runK (P : Program) (k : Value → World → Prop) : Result Next → Prop
  | .ok (.value v) w' => k v w'
  | .ok .skip w' => k undef w'
  | .ok (.enter f args) w' => Calls P f args w' (Ret k)
  | .ok (.round l f tmps assign body) w' => RoundIn Fence.wide 0 P l f tmps assign body w' (Ret k)
  | _ => False
/-- A call of yield: a round of the loop l. -/
def yieldK (P : Program) (l : Nat) (args : List Value) (w : World) (k : Value → World → Prop) : Prop :=
  ∃ f tmps assign body, (Instr.yield l args.toArray).run P w = .ok (.round l f tmps assign body) w ∧ RoundIn Fence.wide 0 P l f tmps assign body w (Ret k)
def ofK (I : TI) (v : Value) (k : I.ty → Prop) : Prop := match I.of v with
  | some p => k p
  | none => False
/-- An operation that is run as it stands; its value is one of its type. -/
def runT (P : Program) (I : TI) (s : Sem Value) (w : World) (k : I.ty → World → Prop) : Prop := match s.run P w with
  | .ok v w' => ofK I v fun p => k p w'
  | .halt _ _ => False
def runU (P : Program) (s : Sem Unit) (w : World) (k : World → Prop) : Prop := match s.run P w with
  | .ok _ w' => k w'
  | .halt _ _ => False
def cellsT (I : TI) (v : Value) : List Value := match I.ifc with
  | true => [v]
  | false => v.cells.toList
def ldK (I : TI) (w : World) (a : Addr) (k : I.ty → Prop) : Prop := ∃ p, CellsAt w a (cellsT I (I.val p)) ∧ k p
def ptrK (p : Option Addr) (k : Addr → Prop) : Prop := ∃ a, p = some a ∧ k a
def idxK (base : Option Addr) (n : Nat) (j : Int) (z : Nat) (k : Addr → Prop) : Prop := (0 ≤ j ∧ j < n) ∧ ∃ a, base = some a ∧ k (a.add (j.toNat * z))
def aidxK (a : Addr) (n : Nat) (j : Int) (z : Nat) (k : Addr → Prop) : Prop := (0 ≤ j ∧ j < n) ∧ k (a.add (j.toNat * z))
/-- Is it nil? (nil comes as the second operand of a comparison) -/
def isNilV : Value → Bool
  | .pointer p => p.isNone
  | .slice a _ _ => a.isNone
  | .map m => m.isNone
  | .nilIface => true
  | .nilFunc => true
  | _ => false
def nilKind : Operand → Nat
  | .const (.pointer none) => 1
  | .const (.slice none _ _) => 2
  | .const (.map none) => 3
  | .const .nilIface => 4
  | _ => 0
def isIfc : Value → Bool
  | .nilIface => true
  | .iface _ _ => true
  | _ => false

def callK (P : Program) (T : TT) (I : TI) (f : Value) (args : List Value) (w : World) (k : I.ty → World → Prop) : Prop := match f with
  | .func (.func g) first cap => (match T.fn g with
    | true => Calls P g ((first.toList ++ args ++ cap.toList).toArray) w (Ret fun v w' => ofK I v fun p => k p w')
    | false => runK P (fun v w' => ofK I v fun p => k p w') ((callFunc g (first.toList ++ args ++ cap.toList).toArray).run P w))
  | .func (.yield l) first _ => yieldK P l (first.toList ++ args) w fun v w' => ofK I v fun p => k p w'
  | _ => False

/-- Whole numbers of one kind. -/
def intBin (op : BinOp) (kk : IntKind) (a b : Int) (k : Value → Prop) : Prop := match op with
  | .add => k (.int kk (kk.wrap (a + b)))
  | .sub => k (.int kk (kk.wrap (a - b)))
  | .mul => k (.int kk (kk.wrap (a * b)))
  | .quo => b ≠ 0 ∧ k (.int kk (kk.wrap (a.tdiv b)))
  | .rem => b ≠ 0 ∧ k (.int kk (a.tmod b))
  | .and => k (.int kk (kk.wrap (BitVec.ofInt kk.bits a &&& BitVec.ofInt kk.bits b).toNat))
  | .or => k (.int kk (kk.wrap (BitVec.ofInt kk.bits a ||| BitVec.ofInt kk.bits b).toNat))
  | .xor => k (.int kk (kk.wrap (BitVec.ofInt kk.bits a ^^^ BitVec.ofInt kk.bits b).toNat))
  | .andNot => k (.int kk (kk.wrap (BitVec.ofInt kk.bits a &&& ~~~ BitVec.ofInt kk.bits b).toNat))
  | .eql => k (.bool (a == b))
  | .neq => k (.bool (a != b))
  | .lss => k (.bool (a < b))
  | .leq => k (.bool (a ≤ b))
  | .gtr => k (.bool (a > b))
  | .geq => k (.bool (a ≥ b))
  | .shl => 0 ≤ b ∧ k (.int kk (kk.wrap (a * 2 ^ (min b.toNat kk.bits))))
  | .shr => 0 ≤ b ∧ k (.int kk (a.fdiv (2 ^ (min b.toNat kk.bits))))
def strBin (op : BinOp) (a b : ByteArray) (k : Value → Prop) : Prop := match op with
  | .add => a.size + b.size ≤ 9223372036854775807 ∧ k (.string (a ++ b))
  | .eql => k (.bool (a.toList == b.toList))
  | .neq => k (.bool !(a.toList == b.toList))
  | _ => False
def isShift : BinOp → Bool
  | .shl => true
  | .shr => true
  | _ => false
def isEq : BinOp → Option Bool
  | .eql => some true
  | .neq => some false
  | _ => none
def binK (P : Program) (T : TT) (op : BinOp) (t : Nat) (xo yo : Operand) (x y : Value) (ty : Nat) (w : World) (k : Value → World → Prop) : Prop :=
  match isEq op, nilKind yo with
  | some b, 1 => (match (T.ti t).nk, x with
    | 1, .pointer p => k (.bool (cond b p.isNone (!p.isNone))) w
    | _, _ => False)
  | some b, 2 => (match (T.ti t).nk, x with
    | 2, .slice a _ _ => k (.bool (cond b a.isNone (!a.isNone))) w
    | _, _ => False)
  | some b, 3 => (match (T.ti t).nk, x with
    | 3, .map a => k (.bool (cond b a.isNone (!a.isNone))) w
    | _, _ => False)
  | some b, 4 => (match (T.ti t).nk with
    | 4 => isIfc x = true ∧ k (.bool (cond b (isNilV x) (!isNilV x))) w
    | _ => False)
  | _, _ => match x, y with
    | .int kk a, .int kk' b => (match decide (kk = kk') || isShift op with
      | true => intBin op kk a b fun v => k v w
      | false => False)
    | .string a, .string b => strBin op a b fun v => k v w
    | .bool a, .bool b => (match (T.ti t).nk, isEq op with
      | 6, some c => k (.bool (cond c (a == b) (!(a == b)))) w
      | _, _ => False)
    | x, y => runT P (T.ti ty) (do eqGuard op t xo yo x y; binOp op t x y) w fun p w' => k ((T.ti ty).val p) w'

/-- A loop: what holds at each round's head, and a measure. -/
def loopP {X : Type} (x0 : X) (w : World) (B : (X → World → Prop) → X → Env → World → Prop) : Prop :=
  ∃ (I : X → World → Prop) (μ : X → World → Nat), I x0 w ∧ ∀ (x : X) (w' : World), I x w' → ∀ d : Env, B (fun x' w'' => I x' w'' ∧ μ x' w'' < μ x w') x d w'

/-! ### Values that are read out of cells -/
structure Sl where
  a : Option Addr
  n : Nat
  c : Nat
structure Clo where
  g : Fn
  first : Array Value
  cap : Array Value
def Vec (α : Type) (n : Nat) : Type := { l : List α // l.length = n }
abbrev Rd (α : Type) := List Value → Option (α × List Value)
def rdI (k : IntKind) : Rd Int
  | .int k' x :: l => (match decide (k' = k) with | true => some (x, l) | false => none)
  | _ => none
def rdB : Rd Bool
  | .bool x :: l => some (x, l)
  | _ => none
def rdS : Rd ByteArray
  | .string x :: l => some (x, l)
  | _ => none
def rdP : Rd (Option Addr)
  | .pointer x :: l => some (x, l)
  | _ => none
def rdSl : Rd Sl
  | .slice a n c :: l => some (⟨a, n, c⟩, l)
  | _ => none
def rdM : Rd (Option Nat)
  | .map x :: l => some (x, l)
  | _ => none
def rdV : Rd Value
  | v :: l => some (v, l)
  | _ => none
def rdF : Rd Clo
  | .func g a b :: l => some (⟨g, a, b⟩, l)
  | _ => none
def rdVec {α : Type} (r : Rd α) : (n : Nat) → Rd (Vec α n)
  | 0, l => some (⟨[], rfl⟩, l)
  | n + 1, l => (r l).bind fun x => (rdVec r n x.2).bind fun y => some (⟨x.1 :: y.1.1, by simp [y.1.2]⟩, y.2)
/-- A reader and a writer of n cells. -/
structure RdOk {α : Type} (r : Rd α) (wr : α → List Value) (n : Nat) : Prop where
  back : ∀ l x l', r l = some (x, l') → l = wr x ++ l'
  len : ∀ x, (wr x).length = n
theorem rdI_ok (k : IntKind) : RdOk (rdI k) (fun x => [.int k x]) 1 where
  len := fun _ => rfl
  back := fun l x l' h => by
    unfold rdI at h
    split at h
    · split at h
      · rename_i hk; cases h; rw [of_decide_eq_true hk]; rfl
      · cases h
    · cases h
theorem rdB_ok : RdOk rdB (fun x => [.bool x]) 1 where
  len := fun _ => rfl
  back := fun l x l' h => by
    unfold rdB at h
    split at h
    · cases h; rfl
    · cases h
theorem rdS_ok : RdOk rdS (fun x => [.string x]) 1 where
  len := fun _ => rfl
  back := fun l x l' h => by
    unfold rdS at h
    split at h
    · cases h; rfl
    · cases h
theorem rdP_ok : RdOk rdP (fun x => [.pointer x]) 1 where
  len := fun _ => rfl
  back := fun l x l' h => by
    unfold rdP at h
    split at h
    · cases h; rfl
    · cases h
theorem rdSl_ok : RdOk rdSl (fun x => [.slice x.a x.n x.c]) 1 where
  len := fun _ => rfl
  back := fun l x l' h => by
    unfold rdSl at h
    split at h
    · cases h; rfl
    · cases h
theorem rdM_ok : RdOk rdM (fun x => [.map x]) 1 where
  len := fun _ => rfl
  back := fun l x l' h => by
    unfold rdM at h
    split at h
    · cases h; rfl
    · cases h
theorem rdV_ok : RdOk rdV (fun x => [x]) 1 where
  len := fun _ => rfl
  back := fun l x l' h => by
    unfold rdV at h
    split at h
    · cases h; rfl
    · cases h
theorem rdF_ok : RdOk rdF (fun x => [.func x.g x.first x.cap]) 1 where
  len := fun _ => rfl
  back := fun l x l' h => by
    unfold rdF at h
    split at h
    · cases h; rfl
    · cases h
theorem rdVec_ok {α : Type} {r : Rd α} {wr : α → List Value} {m : Nat} (h : RdOk r wr m) (n : Nat) : RdOk (rdVec r n) (fun x => x.1.flatMap wr) (n * m) := by
  induction n with
  | zero =>
    refine ⟨fun l x l' hh => ?_, fun x => ?_⟩
    · simp only [rdVec, Option.some.injEq] at hh
      obtain ⟨rfl, rfl⟩ := hh
      rfl
    · have : x.1 = [] := List.eq_nil_of_length_eq_zero x.2
      simp [this]
  | succ n ih =>
    refine ⟨fun l x l' hh => ?_, fun x => ?_⟩
    · simp only [rdVec] at hh
      cases h1 : r l with
      | none => rw [h1] at hh; cases hh
      | some a =>
        obtain ⟨a, l1⟩ := a
        rw [h1] at hh
        simp only [Option.bind_some] at hh
        cases h2 : rdVec r n l1 with
        | none => rw [h2] at hh; cases hh
        | some y =>
          obtain ⟨y, l2⟩ := y
          rw [h2] at hh
          simp only [Option.bind_some, Option.some.injEq] at hh
          have e1 := congrArg Prod.fst hh
          have e2 := congrArg Prod.snd hh
          simp only at e1 e2
          subst e1 e2
          rw [h.back _ _ _ h1, ih.back _ _ _ h2]
          simp
    · obtain ⟨l, hl⟩ := x
      match l, hl with
      | a :: l, hl =>
        have := ih.len ⟨l, by simpa using hl⟩
        simp only [List.flatMap_cons, List.length_append, h.len a]
        simp only at this
        rw [this, Nat.succ_mul, Nat.add_comm]
def ofAgg {α : Type} (r : Rd α) (v : Value) : Option α := match v with
  | .agg cs => (match r cs.toList with
    | some (p, []) => some p
    | _ => none)
  | _ => none
def ofOne {α : Type} (r : Rd α) (v : Value) : Option α := match r [v] with
  | some (p, []) => some p
  | _ => none
def ofTup {α : Type} (f : List Value → Option α) (v : Value) : Option α := match v with
  | .tuple vs => f vs.toList
  | _ => none
theorem ofAgg_ok {α : Type} {r : Rd α} {wr : α → List Value} {n : Nat} (h : RdOk r wr n) {v : Value} {p : α} (hv : ofAgg r v = some p) : v = .agg (wr p).toArray := by
  unfold ofAgg at hv
  split at hv
  · rename_i cs
    split at hv
    · rename_i q hq
      cases hv
      have := h.back _ _ _ hq
      rw [List.append_nil] at this
      rw [← this]
    · cases hv
  · cases hv
theorem ofOne_ok {α : Type} {r : Rd α} {wr : α → List Value} {u : α → Value} (h : RdOk r wr 1) (hu : ∀ p, wr p = [u p]) {v : Value} {p : α} (hv : ofOne r v = some p) : v = u p := by
  unfold ofOne at hv
  split at hv
  · rename_i q hq
    cases hv
    have := h.back _ _ _ hq
    rw [List.append_nil, hu] at this
    exact List.head_eq_of_cons_eq this
  · cases hv

/-- A composite's cells. -/
def setAt (off : Nat) (vs cells : List Value) : List Value := cells.take off ++ vs ++ cells.drop (off + vs.length)
def fillL (place : Nat → Option (Nat × Nat)) (cells : List Value) : List (Nat × Value) → Option (List Value)
  | [] => some cells
  | (i, v) :: rest => match place i with
    | none => none
    | some (off, size) => cond (Nat.beq v.cells.toList.length size && Nat.ble (off + v.cells.toList.length) cells.length) (fillL place (setAt off v.cells.toList cells) rest) none
def repL : Nat → List Value → List Value
  | 0, _ => []
  | n + 1, l => l ++ repL n l
def agOf (v : Value) (k : List Value → Prop) : Prop := match v with
  | .agg cs => k cs.toList
  | _ => False
def tupAt (v : Value) (i : Nat) (k : Value → Prop) : Prop := match v with
  | .tuple vs => (match vs.toList[i]? with | some u => k u | none => False)
  | _ => False

def nextK (P : Program) (s : Sem Value) (w : World) (k : Bool → List Value → World → Prop) : Prop := ∃ b r w', s.run P w = .ok (.tuple (.bool b :: r).toArray) w' ∧ k b r w'
def entK (P : Program) (s : Sem Value) (w : World) (k : Value → Value → World → Prop) : Prop := ∃ x y w', s.run P w = .ok (.tuple #[x, y]) w' ∧ k x y w'
def rngK (P : Program) (s : Sem Value) (w : World) (k : Nat → World → Prop) : Prop := ∃ b w', s.run P w = .ok (.pointer (some ⟨b, 0, none⟩)) w' ∧ k b w'
def tupOf (v : Value) (k : List Value → Prop) : Prop := match v with
  | .tuple vs => k vs.toList
  | _ => False
def convK (P : Program) (T : TT) (src dst : Nat) (v : Value) (ty : Nat) (w : World) (k : Value → World → Prop) : Prop := match v with
  | .int _ n => (match (T.ti src).ik, (T.ti dst).ik with
    | some _, some kk => k (.int kk (kk.wrap n)) w
    | _, _ => False)
  | v => runT P (T.ti ty) (convert src dst v) w fun p w' => k ((T.ti ty).val p) w'
def unK (op : UnOp) (v : Value) (k : Value → Prop) : Prop := match op, v with
  | .not, .bool b => k (.bool !b)
  | .neg, .int kk n => k (.int kk (kk.wrap (0 - n)))
  | .xor, .int kk n => k (.int kk (kk.wrap (BitVec.ofInt kk.bits (if kk.signed then -1 else kk.max) ^^^ BitVec.ofInt kk.bits n).toNat))
  | _, _ => False
def lenK (P : Program) (T : TT) (ats : Array Nat) (ty : Nat) (v : Value) (w : World) (k : Value → World → Prop) : Prop := match v with
  | .slice _ n _ => (match (ats.toList.map fun t => (T.ti t).nk) with
    | [2] => k (.int .i64 n) w
    | _ => False)
  | .string s => (match (ats.toList.map fun t => (T.ti t).nk) with
    | [7] => k (.int .i64 s.size) w
    | _ => False)
  | v => runT P (T.ti ty) (Builtin.len_ ats ty #[v]) w fun p w' => k ((T.ti ty).val p) w'
end Go.Wf
