/- A part of the proof: lemmas; nothing is claimed here. -/
import Derived.Test.YtkeecncgfhgnpaaWSeq
set_option linter.all false
namespace Go.Wf
open Go Go.RowKit
variable {P : Program} {T : TT}

/-! ### A region that draws its order: the nest
 The operations' values in one order, each as it stands in every world of a class; what writes comes last, in its own order. -/
/-- A class of worlds: those that follow on w0 and hold what is known; av: blocks that are spoken for; pd: blocks that came early. -/
structure Th where
  w0 : World
  G : World → Prop
  av : Nat → Prop
  pd : Nat → Prop
def Th.from (w : World) (G : World → Prop) : Th := ⟨w, G, none_, none_⟩
def Th.start (w : World) : Th := ⟨w, Ext w, none_, none_⟩
/-- A class of worlds that a region may begin with. -/
structure GOk (w : World) (G : World → Prop) : Prop where
  here : G w
  stab : ∀ W W', G W → Ext W W' → G W'
theorem GOk.ext (w : World) : GOk w (Ext w) := ⟨⟨rfl, rfl, rfl, Nat.le_refl _, fun _ _ _ => rfl⟩, fun _ _ h k => ⟨k.os.trans h.os, k.tape.trans h.tape, k.output.trans h.output, Nat.le_trans h.size k.size, fun i hi hn => by rw [k.block i (Nat.lt_of_lt_of_le hi h.size) hn, h.block i hi hn]⟩⟩
def Th.new (th : Th) (b : Nat) (o : Obj) : Th := { th with G := fun W => th.G W ∧ W.heap[b]? = some o, av := fun x => th.av x ∨ x = b }
def Th.eff (th : Th) (φ : World → Prop) (N : Nat → Prop) : Th := { th with G := fun W => th.G W ∧ φ W, av := fun x => th.av x ∨ N x }
def Th.pend (th : Th) (b : Nat) : Th := { th with pd := fun x => th.pd x ∨ x = b }
def gLd (I : TI) (th : Th) (a : Addr) (k : I.ty → Prop) : Prop := ∃ p, (∀ W, th.G W → CellsAt W a (cellsT I (I.val p))) ∧ k p
def gRd (P : Program) (I : TI) (th : Th) (s : Sem Value) (k : I.ty → Prop) : Prop :=
  ∃ p, (∀ W, th.G W → runT P I s W fun q W' => I.val q = I.val p ∧ W' = W) ∧ k p
def gNew (th : Th) (o : Obj) (k : Nat → Th → Prop) : Prop := ∀ b, th.w0.heap.size ≤ b → ¬ th.av b → ¬ th.pd b → k b (th.new b o)
/-- The blocks that came between two worlds. -/
def newB (w w' : World) : Nat → Prop := fun x => w.heap.size ≤ x ∧ x < w'.heap.size
def gEff {R : Type} (th : Th) (F : World → (R → World → Prop) → Prop) (k : R → (Nat → Prop) → Th → Prop) : Prop :=
  ∃ φ : R → (Nat → Prop) → World → Prop, (∀ r N W W', φ r N W → Ext W W' → φ r N W') ∧
    (∀ W, th.G W → F W fun r W' => Ext W W' ∧ φ r (newB W W') W') ∧
    ∀ r N, (∀ x, N x → th.w0.heap.size ≤ x ∧ ¬ th.av x ∧ ¬ th.pd x) → (∃ W, th.G W ∧ φ r N W) → k r N (th.eff (φ r N) N)
def gEnd (th : Th) (k : World → Prop) : Prop := ∀ W, th.G W → Ext th.w0 W → k W

/-- What kind of operation: 0 leaves the world and does not look at it; 1 looks at it; 2 makes a block; 3 may make blocks; 4 the others. -/
def kdOf (T : TT) (o : Oper) : Nat := match o.op with
  | .move _ | .assign _ | .pick .. | .nilCheck _ | .fieldAddr .. | .indexAddr .. | .unOp .. | .makeInterface .. | .makeFunc .. | .build .. | .extract .. => 0
  | .convert src dst _ => match (T.ti src).ik, (T.ti dst).nk with
    | some _, _ => 0
    | none, 2 => 3
    | none, _ => 1
  | .binOp _ t _ y _ => match (T.ti t).ik, (T.ti t).nk, nilKind y with
    | some _, _, _ => 0
    | none, 7, _ => 0
    | none, 6, _ => 0
    | none, _, 0 => 1
    | none, _, _ => 0
  | .load .. | .lookup .. | .slice .. | .index .. => 1
  | .call { callee := .builtin .len, argTypes, .. } => match argTypes.toList.map fun t => (T.ti t).nk with
    | [2] => 0
    | [7] => 0
    | _ => 1
  | .alloc _ | .box .. | .buildSlice .. | .makeMap .. => 2
  | .call { callee := .value _, .. } => 3
  | .call { callee := .builtin .append, .. } => 3
  | .makeSlice .. => 3
  | _ => 4
def binPure (op : BinOp) (yo : Operand) (x y : Value) : Bool := match isEq op, nilKind yo with
  | some _, 1 => true
  | some _, 2 => true
  | some _, 3 => true
  | some _, 4 => true
  | _, _ => match x, y with
    | .int _ _, .int _ _ => true
    | .string _, .string _ => true
    | .bool _, .bool _ => true
    | _, _ => false
def pureOk (o : Oper) (e : Env) : Bool := match o.op with
  | .move _ | .assign _ | .pick .. | .nilCheck _ | .fieldAddr .. | .indexAddr .. | .unOp .. | .makeInterface .. | .makeFunc .. | .build .. | .extract .. => true
  | .binOp op _ x y _ => binPure op y (ev e x) (ev e y)
  | .convert _ _ x => match ev e x with
    | .int _ _ => true
    | _ => false
  | .call { callee := .builtin .len, args, .. } => match args.toList.map (ev e) with
    | [.slice ..] => true
    | [.string _] => true
    | _ => false
  | _ => false
def newOf (T : TT) (o : Oper) (e : Env) : Option (Obj × (Nat → Value)) := match o.op with
  | .box t x => some (.cells (ev e x).cells t, fun b => .pointer (some ⟨b, 0, none⟩))
  | .alloc t => match (T.ti t).zero with
    | some z => some (.cells z t, fun b => .pointer (some ⟨b, 0, none⟩))
    | none => none
  | .buildSlice t len parts => match (T.ti t).esz, (T.ti t).alen, (T.ti t).ezero with
    | some z, none, some zv => cond (Nat.ble (len * z) 1000) (match fillL (fun i => some (i * z, z)) (repL len zv) (parts.toList.map fun x => (x.1, ev e x.2)) with
      | some cs => some (.cells cs.toArray (T.ti t).etid, fun b => .slice (some ⟨b, 0, none⟩) len len)
      | none => none) none
    | _, _, _ => none
  | .makeMap _ none => some (.map #[] 0, fun b => .map (some b))
  | _ => none
def effF (P : Program) (T : TT) (o : Oper) (e : Env) : Option (World → ((T.ti o.type).ty → World → Prop) → Prop) := match o.op with
  | .call { callee := .value f, args, .. } => some fun W k => callK P T (T.ti o.type) (ev e f) (args.toList.map (ev e)) W k
  | .call { callee := .builtin .append, args, argTypes } => some fun W k => runT P (T.ti o.type) (Builtin.append_ argTypes o.type (args.toList.map (ev e)).toArray) W k
  | .makeSlice t l c => some fun W k => runT P (T.ti o.type) (Instr.makeSlice t (ev e l) (ev e c)) W k
  | .convert src dst x => match ev e x with
    | .string s => some fun W k => runT P (T.ti o.type) (convert src dst (.string s)) W k
    | _ => none
  | _ => none
def readS (T : TT) (o : Oper) (e : Env) : Option (Sem Value) := match o.op with
  | .slice t x lo hi mx => some (Instr.sliceAt t (ev e x) (lo.map (ev e)) (hi.map (ev e)) (mx.map (ev e)))
  | .lookup t m i ok => some (Instr.lookup t (ev e m) (ev e i) ok)
  | .index t x i => some (Instr.index t (ev e x) (ev e i))
  | .convert src dst x => match ev e x with
    | .slice a n c => some (convert src dst (.slice a n c))
    | .string s => some (convert src dst (.string s))
    | _ => none
  | .binOp op t x y _ => match binPure op y (ev e x) (ev e y) with
    | true => none
    | false => some (do eqGuard op t x y (ev e x) (ev e y); binOp op t (ev e x) (ev e y))
  | .call { callee := .builtin .len, args, argTypes } => match args.toList.map (ev e) with
    | [.map m] => some (Builtin.len_ argTypes o.type #[.map m])
    | _ => none
  | _ => none
def opN (P : Program) (T : TT) (o : Oper) (e : Env) (th : Th) (k : Value → Th → Prop) : Prop := match kdOf T o with
  | 0 => cond (pureOk o e) (opK P T o e th.w0 fun v _ => k v th) False
  | 1 => match o.op with
    | .load t x => (match (T.ti t).sz with
      | some _ => adK (ev e x) fun a => gLd (T.ti t) th a fun p => k ((T.ti t).val p) th
      | none => False)
    | _ => match readS T o e with
      | some s => gRd P (T.ti o.type) th s fun p => k ((T.ti o.type).val p) th
      | none => False
  | 2 => match newOf T o e with
    | some (ob, f) => gNew th ob fun b th' => k (f b) th'
    | none => False
  | 3 => match effF P T o e with
    | some F => gEff th F fun r _ th' => k ((T.ti o.type).val r) th'
    | none => False
  | _ => False
/-- A guarded step. -/
def guardK (ops : Array Oper) (o : Oper) (e : Env) (go : Env → Prop) (pass : Env → Prop) : Prop := match o.guard with
  | none => go e
  | some (j, want) => match (ops[j]?).bind (·.dst) with
    | none => False
    | some d => match e d with
      | .bool b => ifK b
          (match want with
            | true => go (upd e (some d) (.bool true))
            | false => pass (upd (upd e (some d) (.bool true)) o.dst undef))
          (match want with
            | false => go (upd e (some d) (.bool false))
            | true => pass (upd (upd e (some d) (.bool false)) o.dst undef))
      | _ => pass (upd e o.dst undef)
/-! ### What comes ahead of what -/
def edgesOf (o : Oper) : List Nat := (o.after.toList.filter fun e => Region.binds .any e).map (·.on)
def unionB : List Nat → List Nat → List Nat
  | [], m => m
  | x :: l, m => cond (memB m x) (unionB l m) (x :: unionB l m)
/-- What comes ahead of each operation (the list is kept from the last to the first). -/
def befL : List Oper → List (List Nat) → List (List Nat)
  | [], acc => acc
  | o :: l, acc => befL l (acc ++ [(edgesOf o).foldl (fun s j => unionB (j :: (acc[j]?).getD []) s) []])
def befOf (ops : Array Oper) : List (List Nat) := befL ops.toList []
def bef (B : List (List Nat)) (i : Nat) : List Nat := (B[i]?).getD []
def dstAt (ops : Array Oper) (j : Nat) : Option Nat := (ops[j]?).bind (·.dst)
def wantE (ops : Array Oper) (o : Oper) (e : Env) : Bool := match o.guard with
  | none => true
  | some (j, want) => match dstAt ops j with
    | some d => (match e d with | .bool b => b == want | _ => false)
    | none => false
/-- What makes a block and may come up ahead of operation i: can it be made? -/
def newsOk (T : TT) (ops : Array Oper) (e : Env) (i : Nat) (l : List Nat) : Bool := l.all fun j => match ops[j]? with
  | some oj => !(Nat.beq (kdOf T oj) 2) || memB (bef (befOf ops) j) i || (newOf T oj e).isSome || !wantE ops oj e
  | none => true
abbrev Marks := Nat → Option (Option Nat)
def nestK (P : Program) (T : TT) (ops : Array Oper) (mk : Marks) (K : Env → Th → Prop) : List Nat → Env → Th → Prop
  | [], e, th => K e th
  | i :: l, e, th => match ops[i]? with
    | none => False
    | some o => match mk i with
      | some none => nestK P T ops mk K l (upd e o.dst undef) th
      | some (some b) => (match newOf T o e with
        | some (ob, f) => nestK P T ops mk K l (upd e o.dst (f b)) (th.new b ob)
        | none => False)
      | none => cond (match kdOf T o with | 2 => newsOk T ops e i l | 3 => newsOk T ops e i l | _ => true)
        (guardK ops o e (fun e' => opN P T o e' th fun v th' => nestK P T ops mk K l (upd e' o.dst v) th') (fun e' => nestK P T ops mk K l e' th)) False
/-- The tail: in its own order; where a reader of the head may still be to come, what was stays as it was. -/
def tailK (P : Program) (T : TT) (ops : Array Oper) (G0 : World → Prop) (flag : Nat → Bool) (K : Env → World → Prop) : List Nat → Env → World → Prop
  | [], e, W => K e W
  | i :: l, e, W => match ops[i]? with
    | none => False
    | some o => guardK ops o e (fun e' => match kdOf T o with
        | 0 => cond (pureOk o e') (opK P T o e' W fun v W' => tailK P T ops G0 flag K l (upd e' o.dst v) W') False
        | _ => opK P T o e' W fun v W' => (match flag i with
          | true => G0 W' ∧ tailK P T ops G0 flag K l (upd e' o.dst v) W'
          | false => tailK P T ops G0 flag K l (upd e' o.dst v) W')) (fun e' => tailK P T ops G0 flag K l e' W)

/-- A reader of the head that some operation of the tail does not wait for. -/
def flagOf (T : TT) (ops : Array Oper) (B : List (List Nat)) (hd : List Nat) (i : Nat) : Bool :=
  hd.any fun j => !memB (bef B i) j && (match ops[j]? with | some o => !(Nat.beq (kdOf T o) 0) | none => true)
def nestR (P : Program) (T : TT) (ops : Array Oper) (hd tl : List Nat) (e : Env) (w : World) (k : Env → World → Prop) : Prop := match tl.any (flagOf T ops (befOf ops) hd) with
  | true => ∃ G0, GOk w G0 ∧ nestK P T ops (fun _ => none) (fun e th => gEnd th fun W => tailK P T ops G0 (flagOf T ops (befOf ops) hd) k tl e W) hd e (Th.from w G0)
  | false => nestK P T ops (fun _ => none) (fun e th => gEnd th fun W => tailK P T ops (Ext w) (flagOf T ops (befOf ops) hd) k tl e W) hd e (Th.start w)
theorem nestR.out {P : Program} {T : TT} {ops : Array Oper} {hd tl : List Nat} {e : Env} {w : World} {k : Env → World → Prop} (h : nestR P T ops hd tl e w k) :
    ∃ G0, GOk w G0 ∧ nestK P T ops (fun _ => none) (fun e th => gEnd th fun W => tailK P T ops G0 (flagOf T ops (befOf ops) hd) k tl e W) hd e (Th.from w G0) := by
  unfold nestR at h
  split at h
  · exact h
  · exact ⟨Ext w, GOk.ext w, h⟩

/-! ### What is asked of a region, once -/
def looksB (ops : Array Oper) (o : Oper) : List Nat := o.looksAt ops
def isEffB (T : TT) (ops : Array Oper) (j : Nat) : Bool := match ops[j]? with
  | some o => Nat.beq (kdOf T o) 2 || Nat.beq (kdOf T o) 3
  | none => true
def kdAt (T : TT) (ops : Array Oper) (j : Nat) : Nat := match ops[j]? with
  | some o => kdOf T o
  | none => 4
/-- One operation i, those ahead of it in the order. -/
def chkOp (ops : Array Oper) (B : List (List Nat)) (hd tl pre : List Nat) (i : Nat) : Bool := match ops[i]? with
  | none => false
  | some o =>
    (bef B i).all (memB pre) && ((edgesOf o).all (memB (bef B i)) &&
    ((bef B i).all (fun j => (edgesOf o).any fun e => Nat.beq e j || memB (bef B e) j) &&
    ((match o.op with | .select .. => false | .defer .. => false | .go .. => false | _ => true) &&
    ((hd ++ tl).all (fun j => Nat.beq j i || (match dstAt ops j with
        | none => true
        | some t => !(o.dst == some t) && (!memB (looksB ops o) t || memB (bef B i) j || memB (bef B j) i))) &&
    (match o.guard with
      | none => true
      | some (j, _) => memB (bef B i) j && (dstAt ops j).isSome)))))
def chkHead (T : TT) (ops : Array Oper) (B : List (List Nat)) (hd tl pre : List Nat) (i : Nat) : Bool :=
  chkOp ops B hd tl pre i && !Nat.beq (kdAt T ops i) 4 &&
  (match Nat.beq (kdAt T ops i) 2 with
    | true => (match ops[i]? with
      | some o => hd.all fun j => !Nat.beq (kdAt T ops j) 2 || (match dstAt ops j with | some t => !memB (looksB ops o) t | none => true)
      | none => false)
    | false => pre.all fun j => !isEffB T ops j || memB (bef B i) j)
def chkTail (T : TT) (ops : Array Oper) (B : List (List Nat)) (hd tl pre : List Nat) (i : Nat) : Bool :=
  chkOp ops B hd tl pre i && hd.all (fun j => !isEffB T ops j || memB (bef B i) j) &&
  pre.all (fun j => memB hd j || Nat.beq (kdAt T ops j) 0 || memB (bef B i) j) &&
  (Nat.beq (kdAt T ops i) 0 || hd.all fun j => memB (bef B i) j || Nat.beq (kdAt T ops j) 0 ||
    -- such a reader has no maker ahead of it in the order
    ((hd.takeWhile fun x => !Nat.beq x j).all fun x => !isEffB T ops x))
def chkAll (f : List Nat → Nat → Bool) : List Nat → List Nat → Bool
  | _, [] => true
  | pre, i :: l => !memB pre i && f pre i && chkAll f (i :: pre) l
def nestChk (T : TT) (ops : Array Oper) (hd tl : List Nat) : Bool :=
  chkAll (chkHead T ops (befOf ops) hd tl) [] hd && chkAll (chkTail T ops (befOf ops) hd tl) hd.reverse tl &&
  (List.range ops.size).all (fun i => memB hd i || memB tl i) && (hd ++ tl).all (fun i => Nat.blt i ops.size) &&
  (match tl with | [] => true | i :: _ => !Nat.beq (kdAt T ops i) 0) && Nat.blt 0 ops.size

/-! ### The single operations -/
theorem Ext.refl (w : World) : Ext w w := ⟨rfl, rfl, rfl, Nat.le_refl _, fun _ _ _ => rfl⟩
theorem Ext.trans {a b c : World} (h : Ext a b) (k : Ext b c) : Ext a c :=
  ⟨k.os.trans h.os, k.tape.trans h.tape, k.output.trans h.output, Nat.le_trans h.size k.size, fun i hi hn => (k.block i (Nat.lt_of_lt_of_le hi h.size) hn).trans (h.block i hi hn)⟩
theorem Ext.at {a b : World} (h : Ext a b) {i : Nat} {o : Obj} (hi : a.heap[i]? = some o) : b.heap[i]? = some o := by
  have hlt := (Array.getElem?_eq_some_iff.1 hi).1
  rw [h.block i hlt (fun h => h.elim), hi]
def Only (v : Value) (W : World) : Value → World → Prop := fun u W' => u = v ∧ W' = W
theorem intBin_split {op : BinOp} {kk : IntKind} {a b : Int} {k : Value → Prop} (h : intBin op kk a b k) : ∃ v, k v ∧ ∀ k' : Value → Prop, k' v → intBin op kk a b k' := by
  cases op <;> simp only [intBin] at h ⊢ <;> first | exact ⟨_, h, fun _ h' => h'⟩ | exact ⟨_, h.2, fun _ h' => ⟨h.1, h'⟩⟩
theorem strBin_split {op : BinOp} {a b : ByteArray} {k : Value → Prop} (h : strBin op a b k) : ∃ v, k v ∧ ∀ k' : Value → Prop, k' v → strBin op a b k' := by
  cases op <;> simp only [strBin] at h ⊢ <;> first | exact h.elim | exact ⟨_, h, fun _ h' => h'⟩ | exact ⟨_, h.2, fun _ h' => ⟨h.1, h'⟩⟩
theorem binK_split {op : BinOp} {t : Nat} {xo yo : Operand} {x y : Value} {ty : Nat} {w : World} {k : Value → World → Prop} (hp : binPure op yo x y = true) (h : binK P T op t xo yo x y ty w k) :
    ∃ v, k v w ∧ ∀ W (k' : Value → World → Prop), k' v W → binK P T op t xo yo x y ty W k' := by
  unfold binK at *
  unfold binPure at hp
  split at h
  · split at h
    · exact ⟨_, h, fun _ _ h' => h'⟩
    · exact h.elim
  · split at h
    · exact ⟨_, h, fun _ _ h' => h'⟩
    · exact h.elim
  · split at h
    · exact ⟨_, h, fun _ _ h' => h'⟩
    · exact h.elim
  · split at h
    · exact ⟨_, h.2, fun _ _ h' => ⟨h.1, h'⟩⟩
    · exact h.elim
  · split at h
    · split at h
      · obtain ⟨v, h1, h2⟩ := intBin_split h
        exact ⟨v, h1, fun W k' h' => h2 _ h'⟩
      · exact h.elim
    · obtain ⟨v, h1, h2⟩ := strBin_split h
      exact ⟨v, h1, fun W k' h' => h2 _ h'⟩
    · split at h
      · exact ⟨_, h, fun _ _ h' => h'⟩
      · exact h.elim
    · exfalso
      simp_all
theorem pure_split {o : Oper} {e : Env} {w : World} {k : Value → World → Prop} (hp : pureOk o e = true) (h : opK P T o e w k) :
    ∃ v, k v w ∧ ∀ W (k' : Value → World → Prop), k' v W → opK P T o e W k' := by
  obtain ⟨dst, op, ty, pos, after, guard⟩ := o
  unfold pureOk at hp
  unfold opK at *
  cases op <;> simp only at hp h ⊢ <;> try (first | exact ⟨_, h, fun _ _ h' => h'⟩ | (cases hp; done))
  case pick c a b =>
    cases hc : ev e c <;> simp only [hc] at h ⊢ <;> try exact h.elim
    rename_i t
    cases t
    · exact ⟨ev e b, h, fun _ _ h' => h'⟩
    · exact ⟨ev e a, h, fun _ _ h' => h'⟩
  case nilCheck x =>
    split at h
    · obtain ⟨a, h1, h2⟩ := h
      exact ⟨_, h2, fun _ _ h' => ⟨a, h1, h'⟩⟩
    · exact ⟨_, h, fun _ _ h' => h'⟩
    · exact h.elim
  case unOp op t x =>
    unfold unK at *
    split at h <;> first | exact ⟨_, h, fun _ _ h' => h'⟩ | exact h.elim
  case binOp op t x y z => exact binK_split hp h
  case convert src dst x =>
    split at hp
    · rename_i hx
      unfold convK at *
      simp only [hx] at h ⊢
      split at h
      · rename_i h1 h2
        exact ⟨_, h, fun _ _ h' => h'⟩
      · exact h.elim
    · cases hp
  case fieldAddr t x f =>
    split at h
    · unfold adK at *
      split at h
      · exact ⟨_, h, fun _ _ h' => h'⟩
      · exact h.elim
    · exact h.elim
  case indexAddr t x i =>
    split at h
    · split at h
      · obtain ⟨h1, a, h2, h3⟩ := h
        exact ⟨_, h3, fun _ _ h' => ⟨h1, a, h2, h'⟩⟩
      · exact h.elim
    · split at h
      · unfold adK at *
        split at h
        · obtain ⟨h0, h1, h2⟩ := h
          exact ⟨_, h2, fun _ _ h' => ⟨h0, h1, h'⟩⟩
        · exact h.elim
      · exact h.elim
    · exact h.elim
  case makeInterface t x =>
    split at h
    · exact ⟨_, h, fun _ _ h' => h'⟩
    · exact h.elim
  case build t parts =>
    split at h
    · split at h
      · exact ⟨_, h, fun _ _ h' => h'⟩
      · exact h.elim
    · exact h.elim
  case extract t i =>
    unfold tupAt at *
    split at h
    · split at h
      · rename_i u hu
        unfold ofK at *
        cases hof : (T.ti ty).of u with
        | none => simp only [hof] at h
        | some p =>
          simp only [hof] at h
          refine ⟨_, h, fun _ _ h' => ?_⟩
          simp only [hof]
          exact h'
      · exact h.elim
    · exact h.elim
  case call c =>
    obtain ⟨callee, args, ats⟩ := c
    cases callee with
    | builtin b =>
      cases b <;> simp only at hp h ⊢ <;> try (cases hp; done)
      split at h
      · rename_i v hv
        simp only [hv] at hp ⊢
        unfold lenK at *
        split at h
        · split at h
          · exact ⟨_, h, fun _ _ h' => h'⟩
          · exact h.elim
        · split at h
          · exact ⟨_, h, fun _ _ h' => h'⟩
          · exact h.elim
        · exfalso
          simp_all
      · exact h.elim
    | _ => simp only at hp; cases hp

theorem read_split {o : Oper} {e : Env} {th : Th} {k : Value → Th → Prop} (h1 : kdOf T o = 1) (h : opN P T o e th k) :
    ∃ v, k v th ∧ ∀ W, th.G W → opK P T o e W (Only v W) := by
  unfold opN at h
  simp only [h1] at h
  obtain ⟨dst, op, ty, pos, after, guard⟩ := o
  cases op <;> simp only [readS] at h <;> try exact h.elim
  case load t x =>
    unfold opK
    simp only
    cases hz : (T.ti t).sz with
    | none => simp only [hz] at h
    | some n =>
      simp only [hz] at h ⊢
      unfold adK at *
      split at h
      · obtain ⟨p, hp, hk⟩ := h
        exact ⟨_, hk, fun W hW => ⟨p, hp W hW, rfl, rfl⟩⟩
      · exact h.elim
  case slice t x lo hi mx =>
    obtain ⟨p, hp, hk⟩ := h
    exact ⟨_, hk, hp⟩
  case lookup t m i ok =>
    obtain ⟨p, hp, hk⟩ := h
    exact ⟨_, hk, hp⟩
  case index t x i =>
    obtain ⟨p, hp, hk⟩ := h
    exact ⟨_, hk, hp⟩
  case convert src dst x =>
    cases hx : ev e x <;> simp only [hx] at h <;> try exact h.elim
    all_goals
      obtain ⟨p, hp, hk⟩ := h
      refine ⟨_, hk, fun W hW => ?_⟩
      unfold opK convK
      simp only [hx]
      exact hp W hW
  case binOp op t x y z =>
    cases hb : binPure op y (ev e x) (ev e y) with
    | true => simp only [hb] at h
    | false =>
      simp only [hb] at h
      obtain ⟨p, hp, hk⟩ := h
      refine ⟨_, hk, fun W hW => ?_⟩
      unfold opK
      simp only
      have := hp W hW
      unfold binK
      unfold binPure at hb
      split at hb <;> try (cases hb; done)
      rename_i hne1 hne2 hne3 hne4
      split
      · rename_i h1 h2; exact absurd h2 (hne1 _ h1)
      · rename_i h1 h2; exact absurd h2 (hne2 _ h1)
      · rename_i h1 h2; exact absurd h2 (hne3 _ h1)
      · rename_i h1 h2; exact absurd h2 (hne4 _ h1)
      · split
        · rename_i hx hy; simp only [hx, hy] at hb; cases hb
        · rename_i hx hy; simp only [hx, hy] at hb; cases hb
        · rename_i hx hy; simp only [hx, hy] at hb; cases hb
        · exact this
  case call c =>
    obtain ⟨callee, args, ats⟩ := c
    cases callee with
    | builtin b =>
      cases b <;> simp only at h <;> try exact h.elim
      rcases hm : args.toList.map (ev e) with _ | ⟨m, _ | _⟩ <;> simp only [hm] at h <;> try exact h.elim
      cases m <;> simp only at h <;> try exact h.elim
      obtain ⟨p, hp, hk⟩ := h
      refine ⟨_, hk, fun W hW => ?_⟩
      unfold opK
      simp only [hm]
      exact hp W hW
    | _ => simp only at h
theorem new_run {o : Oper} {e : Env} {ob : Obj} {f : Nat → Value} (h : newOf T o e = some (ob, f)) {W : World} {k : Value → World → Prop} (hk : NewK ob W fun b w' => k (f b) w') :
    opK P T o e W k := by
  obtain ⟨dst, op, ty, pos, after, guard⟩ := o
  unfold newOf at h
  unfold opK
  cases op <;> simp only at h ⊢ <;> try (cases h; done)
  case box t x => cases h; exact hk
  case alloc t =>
    cases hz : (T.ti t).zero with
    | none => simp only [hz] at h; cases h
    | some z => simp only [hz] at h ⊢; cases h; exact hk
  case buildSlice t n parts =>
    split at h
    · rename_i h1 h2 h3
      simp only [h1, h2, h3]
      cases hb : Nat.ble (n * _) 1000 with
      | false => rw [hb] at h; cases h
      | true =>
        rw [hb] at h
        simp only [cond_true] at h ⊢
        split at h
        · rename_i cs hcs
          simp only [hcs]
          cases h
          exact hk
        · cases h
    · cases h
  case makeMap t r =>
    cases r with
    | none => simp only at h ⊢; cases h; exact hk
    | some _ => simp only at h; cases h
theorem eff_run {o : Oper} {e : Env} {F : World → ((T.ti o.type).ty → World → Prop) → Prop} (h : effF P T o e = some F) {W : World} {k : Value → World → Prop}
    (hk : F W fun p w' => k ((T.ti o.type).val p) w') : opK P T o e W k := by
  obtain ⟨dst, op, ty, pos, after, guard⟩ := o
  unfold effF at h
  unfold opK
  cases op <;> simp only at h ⊢ <;> try (cases h; done)
  case makeSlice => cases h; exact hk
  case convert src dst x =>
    cases hx : ev e x <;> simp only [hx] at h <;> try (cases h; done)
    cases h
    unfold convK
    exact hk
  case call c =>
    obtain ⟨callee, args, ats⟩ := c
    cases callee with
    | builtin b => cases b <;> simp only at h ⊢ <;> first | (cases h; done) | (cases h; exact hk)
    | value f => simp only at h ⊢; cases h; exact hk
    | invoke r m => simp only at h; cases h
theorem cond_out {c : Bool} {A : Prop} (h : cond c A False) : c = true ∧ A := by
  cases c
  · exact h.elim
  · exact ⟨rfl, h⟩
theorem cond_mk {c : Bool} {A B : Prop} (h : cond c A False) (hk : A → B) : cond c B False := by
  cases c
  · exact h.elim
  · exact hk h
end Go.Wf
