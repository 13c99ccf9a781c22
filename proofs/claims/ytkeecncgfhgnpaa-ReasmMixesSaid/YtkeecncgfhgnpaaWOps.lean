/- A part of the proof: lemmas; nothing is claimed here. -/
import Derived.Test.YtkeecncgfhgnpaaWBase
set_option linter.all false
namespace Go.Wf
open Go Go.RowKit
variable {P : Program} {T : TT}

/-! ### Small facts on addresses -/
theorem add_add (a : Addr) (i j : Nat) : (a.add i).add j = a.add (i + j) := by
  unfold Addr.add
  by_cases hi : i = 0 <;> by_cases hj : j = 0 <;> simp [hi, hj, Nat.add_assoc]
theorem add_zero (a : Addr) : a.add 0 = a := by simp [Addr.add]
theorem add_block (a : Addr) (n : Nat) : (a.add n).block = a.block := by unfold Addr.add; split <;> rfl
theorem add_off (a : Addr) (n : Nat) : (a.add n).off = a.off + n := by unfold Addr.add; split <;> simp_all
theorem add_spot {a : Addr} (h : a.spot = none) (n : Nat) : (a.add n).spot = none := by unfold Addr.add; split <;> simp_all

/-! ### Loads -/
theorem run_loadCellsFrom {w : World} (a : Addr) : ∀ (l : List Value) (i : Nat) (acc : Array Value), (∀ j v, l[j]? = some v → w.cell? (a.add (i + j)) = some v) →
    (loadCellsFrom a i l.length acc).run P w = .ok (acc ++ l.toArray) w := by
  intro l
  induction l with
  | nil => intro i acc _; simp [loadCellsFrom]
  | cons v l ih =>
    intro i acc h
    have h0 : w.cell? (a.add i) = some v := by simpa using h 0 v rfl
    have h1 := ih (i + 1) (acc.push v) (fun j u hu => by
      have := h (j + 1) u (by simpa using hu)
      rwa [show i + 1 + j = i + (j + 1) by omega])
    simp only [List.length_cons, loadCellsFrom, Sem.run_bind, load, Sem.run, h0, Result.andThen, h1]
    simp
theorem run_loadCells {w : World} {a : Addr} {l : List Value} (h : CellsAt w a l) : (loadCells a l.length).run P w = .ok l.toArray w := by
  unfold loadCells
  rw [run_loadCellsFrom a l 0 #[] (fun j v hv => by simpa using h j v hv)]
  simp

/-- What a type's row says fits the program. -/
structure LdOk (P : Program) (t : Nat) (I : TI) : Prop where
  of : ∀ v p, I.of v = some p → v = I.val p
  load : ∀ m, I.sz = some m → ∀ p, (I.ifc = false ∧ ∃ n, (isAgg t).run P = Result.ok true ∧ (sizeOf t).run P = Result.ok n ∧ ∃ cs : Array Value, I.val p = .agg cs ∧ cs.size = n) ∨
    ((isAgg t).run P = Result.ok false ∧ cellsT I (I.val p) = [I.val p])

theorem run_loadVar {w : World} {t : Nat} {a : Addr} {I : TI} (hI : LdOk P t I) {sz : Nat} (hsz : I.sz = some sz) {p : I.ty} (h : CellsAt w a (cellsT I (I.val p))) : (loadVar t a).run P w = .ok (I.val p) w := by
  unfold loadVar
  rcases hI.load _ hsz p with ⟨hi, n, hA, hs, hc⟩ | ⟨hA, hc⟩
  · obtain ⟨cs, hv, hn⟩ := hc
    unfold cellsT at h
    rw [hi] at h
    rw [hv] at h ⊢
    have := run_loadCells (P := P) (l := cs.toList) (by simpa [Value.cells] using h)
    simp only [Sem.run_bind, hA, Result.andThen, if_true, hs]
    rw [← hn, ← Array.length_toList, this]
    simp
  · have h0 := h 0 (I.val p) (by rw [hc]; rfl)
    rw [add_zero] at h0
    simp [Sem.run_bind, hA, Result.andThen, load, Sem.run, h0]

/-! ### Stores -/
theorem Wrote.nil (a : Addr) (w : World) : Wrote a [] w w :=
  ⟨rfl, rfl, rfl, rfl, fun _ _ => rfl, fun cs t fr h => ⟨cs, h, rfl, fun j => by
    have : ¬ (a.off ≤ j ∧ j < a.off + 0) := by omega
    rw [List.length_nil, if_neg this]⟩⟩
theorem Wrote.cons {a : Addr} {v : Value} {l : List Value} {w w' : World} (hs : a.spot = none) {cs : Array Value} {t : TypeId} {fr : Nat × Nat}
    (hb : w.heap[a.block]? = some (.cells cs t fr)) (hlt : a.off < cs.size) (h : Wrote (a.add 1) l (w.setCell a v) w') : Wrote a (v :: l) w w' := by
  have hset : (w.setCell a v).heap[a.block]? = some (.cells (cs.setIfInBounds a.off v) t fr) := by
    simp [World.setCell, Array.getElem?_modify, hb, hs]
  refine ⟨h.os, h.tape, h.output, by rw [h.size]; simp, fun k hk => ?_, fun cs0 t0 fr0 h0 => ?_⟩
  · rw [h.other k (by rw [add_block]; exact hk)]
    exact Below.heap_setCell _ _ _ _ hk
  · rw [hb] at h0; cases h0
    obtain ⟨cs', h1, h2, h3⟩ := h.cells _ t fr (by rw [add_block]; exact hset)
    rw [add_block] at h1
    refine ⟨cs', h1, by simpa using h2, fun j => ?_⟩
    rw [h3 j, add_off]
    by_cases e : j = a.off
    · subst e
      have h4 : ¬ (a.off + 1 ≤ a.off ∧ a.off < a.off + 1 + l.length) := by omega
      have h5 : a.off ≤ a.off ∧ a.off < a.off + (v :: l).length := by simp
      rw [if_neg h4, if_pos h5]
      simp [hlt]
    · by_cases h6 : a.off + 1 ≤ j ∧ j < a.off + 1 + l.length
      · have h7 : a.off ≤ j ∧ j < a.off + (v :: l).length := by simp; omega
        rw [if_pos h6, if_pos h7]
        obtain ⟨d, hd⟩ : ∃ d, j - a.off = d + 1 := ⟨j - a.off - 1, by omega⟩
        rw [hd, show j - (a.off + 1) = d by omega]
        simp
      · have h7 : ¬ (a.off ≤ j ∧ j < a.off + (v :: l).length) := by simp; omega
        rw [if_neg h6, if_neg h7]
        simp [Ne.symm e]

def oneCell : Value → Bool
  | .agg _ => false
  | .tuple _ => false
  | _ => true

theorem run_storeCells {a : Addr} : ∀ (l : List Value) (i : Nat) (w : World), (a.add i).spot = none → (∀ v ∈ l, oneCell v = true) →
    (l = [] ∨ ∃ cs t lo hi, w.heap[a.block]? = some (.cells cs t (lo, hi)) ∧ (a.off + i) + l.length ≤ cs.size ∧ (∀ j, a.off + i ≤ j → j < a.off + i + l.length → (lo ≤ j && j < hi) = false)) →
    ∃ w', (storeCells a l i).run P w = .ok () w' ∧ Wrote (a.add i) l w w' := by
  intro l
  induction l with
  | nil => intro i w _ _ _; exact ⟨w, by simp [storeCells], Wrote.nil _ _⟩
  | cons v l ih =>
    intro i w hs h1 h
    obtain ⟨cs, t, lo, hi, hb, hlen, hfr⟩ := h.resolve_left (by simp)
    have hoff : (a.add i).off = a.off + i := add_off a i
    have hblk : (a.add i).block = a.block := add_block a i
    have hlt : (a.add i).off < cs.size := by simp at hlen; omega
    have hcell : w.cell? (a.add i) = some cs[(a.add i).off] := by
      simp [World.cell?, hblk, hb, hs, hlt]
    have hnf : w.frozen? (a.add i) = false := by
      have := hfr (a.off + i) (by omega) (by simp)
      simp only [World.frozen?, hblk, hb, hoff]
      simpa using this
    have hset : (w.setCell (a.add i) v).heap[a.block]? = some (.cells (cs.setIfInBounds (a.off + i) v) t (lo, hi)) := by
      simp [World.setCell, Array.getElem?_modify, hb, hs, hblk, hoff]
    obtain ⟨w', hr, hw⟩ := ih (i + 1) (w.setCell (a.add i) v) (by rw [← add_add]; exact add_spot hs 1) (fun u hu => h1 u (by simp [hu]))
      (.inr ⟨_, t, lo, hi, hset, by simp at hlen ⊢; omega, fun j hj1 hj2 => hfr j (by omega) (by simp; omega)⟩)
    refine ⟨w', ?_, ?_⟩
    · simp only [storeCells, Sem.run_bind, store]
      have hv := h1 v (by simp)
      have : (Sem.store Mode.plain (a.add i) v (Sem.pure ())).run P w = .ok () (w.setCell (a.add i) v) := by
        cases v <;> simp [oneCell] at hv <;> simp [Sem.run, hcell, hnf]
      rw [this]
      simp only [Result.andThen]
      exact hr
    · rw [← add_add] at hw
      exact Wrote.cons hs (by rw [hblk]; exact hb) hlt hw

/-! ### Facts on the program that a type's row needs -/
structure TOk1 (P : Program) (t : Nat) (I : TI) : Prop extends LdOk P t I where
  zero : ∀ z, I.zero = some z → ∃ v, (zeroValue t).run P = Result.ok v ∧ v.cells = z
  offs : ∀ (f n : Nat), I.offs[f]? = some (some n) → ∃ (fields : Array Field) (fld : Field), (underlying t).run P = Result.ok (.struct fields) ∧ fields[f]? = some fld ∧ fld.offset = n ∧ ∃ m, (sizeOf fld.type).run P = Result.ok m ∧ m ≠ 0
  sz : ∀ n, I.sz = some n → (sizeOf t).run P = Result.ok n
  esz : ∀ z, I.esz = some z → (I.alen = none ∧ ∃ el, (underlying t).run P = Result.ok (.slice el) ∧ (sizeOf el).run P = Result.ok z ∧ el = I.etid ∧ ∃ zv, I.ezero = some zv ∧ (z ≠ 0 → ∃ v, (zeroValue el).run P = Result.ok v ∧ v.cells.toList = zv) ∧ zv.length = z) ∨
    (∃ n, I.alen = some n ∧ ∃ el, (underlying t).run P = Result.ok (.array n el) ∧ (sizeOf el).run P = Result.ok z)
  nk1 : I.nk = 1 → ∃ el, (underlying t).run P = Result.ok (.pointer el)
  nk2 : I.nk = 2 → ∃ el, (underlying t).run P = Result.ok (.slice el)
  nk3 : I.nk = 3 → ∃ ke el, (underlying t).run P = Result.ok (.map ke el)
  nk4 : I.nk = 4 → ∃ ms, (underlying t).run P = Result.ok (.interface ms)
  nk6 : I.nk = 6 → (underlying t).run P = Result.ok .bool
  nk7 : I.nk = 7 → (underlying t).run P = Result.ok .string
  ik : ∀ kk, I.ik = some kk → (underlying t).run P = Result.ok (.int kk)
  conc : I.conc = true → ∃ d, (underlying t).run P = Result.ok d ∧ ∀ ms, d ≠ .interface ms
  places : ∀ pl, I.places = some pl → (∃ fields : Array Field, (underlying t).run P = Result.ok (.struct fields) ∧ (fields.toList.mapM (m := Sem) fun f => do pure (f.offset, ← sizeOf f.type)).run P = Result.ok pl) ∨
    (∃ n el m, (underlying t).run P = Result.ok (.array n el) ∧ (sizeOf el).run P = Result.ok m ∧ ∀ (i : Nat) x, pl[i]? = some x → x = (i * m, m))
/-- A function with a text. -/
def hasBody (P : Program) (f : Nat) : Prop := ∀ args, (callFunc f args).run P = Result.ok (.enter f args)
structure TOk (P : Program) (T : TT) : Prop where
  mixed : P.follows .mixedOrders = true
  ti : ∀ t, TOk1 P t (T.ti t)
  fn : ∀ f, T.fn f = true → hasBody P f

/-! ### The operations -/
def opK (P : Program) (T : TT) (o : Oper) (e : Env) (w : World) (k : Value → World → Prop) : Prop := match o.op with
  | .move x | .assign x => k (ev e x) w
  | .pick c a b => match ev e c with
    | .bool t => ifK t (k (ev e a) w) (k (ev e b) w)
    | _ => False
  | .load t x => match (T.ti t).sz with
    | some _ => adK (ev e x) fun a => ldK (T.ti t) w a fun p => k ((T.ti t).val p) w
    | none => False
  | .store t x y => match (T.ti t).sz with
    | some n => adK (ev e x) fun a => (match (T.ti t).ifc with
      | true => oneCell (ev e y) = true ∧ n = 1 ∧ StoreK a [ev e y] w fun w' => k undef w'
      | false => stoK (Nat.beq (ev e y).cells.size n && (ev e y).cells.toList.all oneCell) (StoreK a (ev e y).cells.toList w fun w' => k undef w'))
    | none => False
  | .nilCheck x => match ev e x with
    | .pointer p => ptrK p fun a => k (.pointer (some a)) w
    | .func (.func g) fst cap => k (.func (.func g) fst cap) w
    | _ => False
  | .box t x => NewK (.cells (ev e x).cells t) w fun b w' => k (.pointer (some ⟨b, 0, none⟩)) w'
  | .alloc t => match (T.ti t).zero with
    | some z => NewK (.cells z t) w fun b w' => k (.pointer (some ⟨b, 0, none⟩)) w'
    | none => False
  | .fieldAddr t x f => match (T.ti t).offs[f]? with
    | some (some n) => adK (ev e x) fun a => k (.pointer (some (a.add n))) w
    | _ => False
  | .indexAddr t x i => match (T.ti t).esz, (T.ti t).alen with
    | some z, none => (match ev e x, ev e i with
      | .slice base n _, .int _ j => idxK base n j z fun a => k (.pointer (some a)) w
      | _, _ => False)
    | some z, some n => (match ev e i with
      | .int _ j => adK (ev e x) fun a => Nat.blt 1 n = true ∧ aidxK a n j z fun a' => k (.pointer (some a')) w
      | _ => False)
    | none, _ => False
  | .binOp op t x y _ => binK P T op t x y (ev e x) (ev e y) o.type w k
  | .unOp op _ x => unK op (ev e x) fun v => k v w
  | .convert src dst x => convK P T src dst (ev e x) o.type w k
  | .makeInterface t x => match (T.ti t).conc with
    | true => k (.iface t (ev e x)) w
    | false => False
  | .makeFunc fn fst cap => k (.func fn (fst.toList.map (ev e)).toArray (cap.toList.map (ev e)).toArray) w
  | .build t parts => match (T.ti t).places, (T.ti t).zero with
    | some pl, some z => (match fillL (fun i => pl[i]?) z.toList (parts.toList.map fun x => (x.1, ev e x.2)) with
      | some cs => k (.agg cs.toArray) w
      | none => False)
    | _, _ => False
  | .buildSlice t len parts => match (T.ti t).esz, (T.ti t).alen, (T.ti t).ezero with
    | some z, none, some zv => cond (Nat.ble (len * z) 1000) (match fillL (fun i => some (i * z, z)) (repL len zv) (parts.toList.map fun x => (x.1, ev e x.2)) with
      | some cs => NewK (.cells cs.toArray (T.ti t).etid) w fun b w' => k (.slice (some ⟨b, 0, none⟩) len len) w'
      | none => False) False
    | _, _, _ => False
  | .extract t i => tupAt (ev e t) i fun u => ofK (T.ti o.type) u fun p => k ((T.ti o.type).val p) w
  | .makeMap _ r => match r with
    | none => NewK (.map #[] 0) w fun b w' => k (.map (some b)) w'
    | some _ => False
  | .makeSlice t l c => runT P (T.ti o.type) (Instr.makeSlice t (ev e l) (ev e c)) w fun p w' => k ((T.ti o.type).val p) w'
  | .slice t x lo hi mx => runT P (T.ti o.type) (Instr.sliceAt t (ev e x) (lo.map (ev e)) (hi.map (ev e)) (mx.map (ev e))) w fun p w' => k ((T.ti o.type).val p) w'
  | .lookup t m i ok => runT P (T.ti o.type) (Instr.lookup t (ev e m) (ev e i) ok) w fun p w' => k ((T.ti o.type).val p) w'
  | .index t x i => runT P (T.ti o.type) (Instr.index t (ev e x) (ev e i)) w fun p w' => k ((T.ti o.type).val p) w'
  | .typeAssert x t t' ok => runT P (T.ti o.type) (Instr.typeAssert (ev e x) t t' ok) w fun p w' => k ((T.ti o.type).val p) w'
  | .mapUpdate t m i x => runU P (Instr.mapUpdate t (ev e m) (ev e i) (ev e x)) w fun w' => k undef w'
  | .insert t m i x => runU P (Instr.mapUpdate t (ev e m) (ev e i) (ev e x)) w fun w' => k undef w'
  | .range t x => rngK P (Instr.range t (ev e x)) w fun b w' => k (.pointer (some ⟨b, 0, none⟩)) w'
  | .next it s => nextK P (Instr.next (ev e it) s o.type) w fun b r w' => k (.tuple (.bool b :: r).toArray) w'
  | .entry it => entK P (Instr.entry (ev e it)) w fun x y w' => k (.tuple #[x, y]) w'
  | .call { callee := .value f, args, .. } => callK P T (T.ti o.type) (ev e f) (args.toList.map (ev e)) w fun p w' => k ((T.ti o.type).val p) w'
  | .call { callee := .builtin b, args, argTypes } => match b with
    | .len => (match args.toList.map (ev e) with
      | [v] => lenK P T argTypes o.type v w k
      | _ => False)
    | .append => runT P (T.ti o.type) (Builtin.append_ argTypes o.type (args.toList.map (ev e)).toArray) w fun p w' => k ((T.ti o.type).val p) w'
    | .copy => runT P (T.ti o.type) (Builtin.copy_ argTypes o.type (args.toList.map (ev e)).toArray) w fun p w' => k ((T.ti o.type).val p) w'
    | .delete => runT P (T.ti o.type) (Builtin.delete_ argTypes o.type (args.toList.map (ev e)).toArray) w fun p w' => k ((T.ti o.type).val p) w'
    | .clear => runT P (T.ti o.type) (Builtin.clear_ argTypes o.type (args.toList.map (ev e)).toArray) w fun p w' => k ((T.ti o.type).val p) w'
    | .min => runT P (T.ti o.type) (Builtin.min_ argTypes o.type (args.toList.map (ev e)).toArray) w fun p w' => k ((T.ti o.type).val p) w'
    | .max => runT P (T.ti o.type) (Builtin.max_ argTypes o.type (args.toList.map (ev e)).toArray) w fun p w' => k ((T.ti o.type).val p) w'
    | .cap => runT P (T.ti o.type) (Builtin.cap_ argTypes o.type (args.toList.map (ev e)).toArray) w fun p w' => k ((T.ti o.type).val p) w'
    | _ => False
  | _ => runK P k ((execOp (ev e) o).run P w)

theorem alloc_ext (w : World) (o : Obj) : Ext w (w.alloc o) :=
  ⟨rfl, rfl, rfl, by simp, fun k hk _ => Below.heap_alloc w o k hk⟩
theorem NewK.use {o : Obj} {w : World} {k : Nat → World → Prop} (h : NewK o w k) : k w.heap.size (w.alloc o) :=
  h _ (alloc_ext w o) (by simp) (World.alloc_heap_new w o)


theorem ofK_val {t : Nat} {I : TI} (hI : LdOk P t I) {v : Value} {k : Value → Prop} (h : ofK I v fun p => k (I.val p)) : k v := by
  unfold ofK at h
  split at h
  · rename_i p hp
    rw [hI.of v p hp]
    exact h
  · exact h.elim
theorem runT_ok {t : Nat} {I : TI} (hI : LdOk P t I) {s : Sem Value} {w : World} {k : Value → World → Prop} (h : runT P I s w fun p w' => k (I.val p) w') :
    ∃ v w', s.run P w = .ok v w' ∧ k v w' := by
  unfold runT at h
  split at h
  · rename_i v w' hr
    exact ⟨v, w', hr, ofK_val (k := fun v => k v w') hI h⟩
  · exact h.elim
theorem runT_run {t : Nat} {I : TI} (hI : LdOk P t I) {s : Sem Value} {w : World} {k : Value → World → Prop} (h : runT P I s w fun p w' => k (I.val p) w') :
    runK P k ((do pure (Next.value (← s)) : Sem Next).run P w) := by
  obtain ⟨v, w', hr, hk⟩ := runT_ok hI h
  simp only [Sem.run_bind, hr, Result.andThen, Sem.run_pure]
  exact hk
theorem runU_run {s : Sem Unit} {w : World} {k : Value → World → Prop} (h : runU P s w fun w' => k undef w') : runK P k ((do s; pure Next.skip : Sem Next).run P w) := by
  unfold runU at h
  split at h
  · rename_i u w' hr
    simp only [Sem.run_bind, hr, Result.andThen, Sem.run_pure]
    exact h
  · exact h.elim

theorem intBin_run {op : BinOp} {kk : IntKind} {a b : Int} {yk : IntKind} {w : World} {k : Value → Prop} {t : Nat} (he : kk = yk ∨ isShift op = true) (h : intBin op kk a b k) :
    ∃ v, (binOp op t (.int kk a) (.int yk b)).run P w = .ok v w ∧ k v := by
  cases op <;> simp only [intBin] at h <;> simp only [isShift, Bool.false_eq_true, or_false, or_true] at he <;> (try subst he) <;>
    simp only [binOp, Op.intArith, Op.intDiv, Op.intBits, Op.intCmp, Op.shift, ne_eq, not_true_eq_false, if_false, Sem.run_pure] <;> try exact ⟨_, rfl, h⟩
  case quo => obtain ⟨h1, h2⟩ := h; rw [if_neg h1]; exact ⟨_, rfl, h2⟩
  case rem => obtain ⟨h1, h2⟩ := h; rw [if_neg h1]; exact ⟨_, rfl, h2⟩
  case shl => obtain ⟨h1, h2⟩ := h; rw [if_neg (by omega)]; exact ⟨_, rfl, h2⟩
  case shr => obtain ⟨h1, h2⟩ := h; rw [if_neg (by omega)]; exact ⟨_, rfl, h2⟩

theorem eqGuard_int {op : BinOp} {t : Nat} {xo yo : Operand} {kk yk : IntKind} {a b : Int} {w : World} : (eqGuard op t xo yo (.int kk a) (.int yk b)).run P w = .ok () w := by
  unfold eqGuard
  cases op <;> rfl
theorem eqGuard_str {op : BinOp} {t : Nat} {xo yo : Operand} {a b : ByteArray} {w : World} : (eqGuard op t xo yo (.string a) (.string b)).run P w = .ok () w := by
  unfold eqGuard
  cases op <;> rfl
theorem eqGuard_bool {op : BinOp} {t : Nat} {xo yo : Operand} {a b : Bool} {w : World} : (eqGuard op t xo yo (.bool a) (.bool b)).run P w = .ok () w := by
  unfold eqGuard
  cases op <;> rfl
theorem nil_run {op : BinOp} {b : Bool} (hop : isEq op = some b) {t : Nat} {xo yo : Operand} {x y : Value} {w : World} {k : Value → World → Prop} {r : Bool}
    (hg : (eqGuard op t xo yo x y).run P w = .ok () w) (he : (Op.equal t x y).run P w = .ok r w) (hk : k (.bool (cond b r (!r))) w)
    (hb : ∀ op, (op = .eql ∨ op = .neq) → binOp op t x y = (if op = .eql then (do pure (.bool (← Op.equal t x y))) else (do pure (.bool (!(← Op.equal t x y)))))) :
    ∃ v, (do eqGuard op t xo yo x y; binOp op t x y : Sem Value).run P w = .ok v w ∧ k v w := by
  cases op <;> simp [isEq] at hop
  · subst hop
    refine ⟨_, ?_, hk⟩
    have := hb .eql (.inl rfl)
    simp only [Sem.run_bind, hg, Result.andThen, this, if_true, he, Sem.run_pure, cond_true]
  · subst hop
    refine ⟨_, ?_, hk⟩
    have := hb .neq (.inr rfl)
    simp only [Sem.run_bind, hg, Result.andThen, this, reduceCtorEq, if_false, he, Sem.run_pure, cond_false]

theorem equal_eq (t : Nat) (x y : Value) : Op.equal t x y = Op.equalIn (9999 + 1) t x y := rfl
section
variable {t : Nat} {w : World} (d : Nat)
theorem equalIn_ptr {el : Nat} (hu : (underlying t).run P = Result.ok (.pointer el)) (p : Option Addr) : (Op.equalIn (d + 1) t (.pointer p) (.pointer none)).run P w = .ok p.isNone w := by
  simp only [Op.equalIn, Sem.run_bind, hu, Result.andThen]; cases p <;> rfl
theorem equalIn_sl {el : Nat} (hu : (underlying t).run P = Result.ok (.slice el)) (p : Option Addr) (n c n' c' : Nat) : (Op.equalIn (d + 1) t (.slice p n c) (.slice none n' c')).run P w = .ok p.isNone w := by
  simp only [Op.equalIn, Sem.run_bind, hu, Result.andThen]; cases p <;> rfl
theorem equalIn_mp {ke el : Nat} (hu : (underlying t).run P = Result.ok (.map ke el)) (p : Option Nat) : (Op.equalIn (d + 1) t (.map p) (.map none)).run P w = .ok p.isNone w := by
  simp only [Op.equalIn, Sem.run_bind, hu, Result.andThen]; cases p <;> rfl
theorem equalIn_ifc {ms : Array (String × TypeId)} (hu : (underlying t).run P = Result.ok (.interface ms)) {x : Value} (hx : isIfc x = true) : (Op.equalIn (d + 1) t x .nilIface).run P w = .ok (isNilV x) w := by
  simp only [Op.equalIn, Sem.run_bind, hu, Result.andThen]
  unfold isIfc at hx
  split at hx <;> first | rfl | cases hx
theorem equalIn_bool (hu : (underlying t).run P = Result.ok .bool) (a b : Bool) : (Op.equalIn (d + 1) t (.bool a) (.bool b)).run P w = .ok (a == b) w := by
  simp only [Op.equalIn, Sem.run_bind, hu, Result.andThen]; rfl
end
theorem nilKind1 {yo : Operand} (h : nilKind yo = 1) : yo = .const (.pointer none) := by unfold nilKind at h; split at h <;> first | rfl | cases h
theorem nilKind2 {yo : Operand} (h : nilKind yo = 2) : ∃ n c, yo = .const (.slice none n c) := by unfold nilKind at h; split at h <;> first | exact ⟨_, _, rfl⟩ | cases h
theorem nilKind3 {yo : Operand} (h : nilKind yo = 3) : yo = .const (.map none) := by unfold nilKind at h; split at h <;> first | rfl | cases h
theorem nilKind4 {yo : Operand} (h : nilKind yo = 4) : yo = .const .nilIface := by unfold nilKind at h; split at h <;> first | rfl | cases h

theorem binK_run (hT : TOk P T) {op : BinOp} {t : Nat} {xo yo : Operand} {x : Value} {e : Env} {ty : Nat} {w : World} {k : Value → World → Prop} (h : binK P T op t xo yo x (ev e yo) ty w k) :
    ∃ v w', (do eqGuard op t xo yo x (ev e yo); binOp op t x (ev e yo) : Sem Value).run P w = .ok v w' ∧ k v w' := by
  unfold binK at h
  split at h
  · rename_i b hop hn
    rw [nilKind1 hn]
    split at h
    · rename_i p hnk
      obtain ⟨el, hu⟩ := (hT.ti t).nk1 hnk
      obtain ⟨v, h1, h2⟩ := nil_run (P := P) hop (x := .pointer p) (y := .pointer none) (xo := xo) (yo := .const (.pointer none)) (t := t) (r := p.isNone)
        (by unfold eqGuard; cases op <;> rfl) (by rw [equal_eq]; exact equalIn_ptr _ hu p) h (by rintro op (rfl | rfl) <;> rfl)
      exact ⟨v, w, h1, h2⟩
    · exact h.elim
  · rename_i b hop hn
    obtain ⟨n, c, hyo⟩ := nilKind2 hn
    rw [hyo]
    split at h
    · rename_i a _ _ hnk
      obtain ⟨el, hu⟩ := (hT.ti t).nk2 hnk
      obtain ⟨v, h1, h2⟩ := nil_run (P := P) hop (x := .slice a _ _) (y := .slice none n c) (xo := xo) (yo := .const (.slice none n c)) (t := t) (r := a.isNone)
        (by unfold eqGuard; cases op <;> rfl) (by rw [equal_eq]; exact equalIn_sl _ hu a _ _ _ _) h (by rintro op (rfl | rfl) <;> rfl)
      exact ⟨v, w, h1, h2⟩
    · exact h.elim
  · rename_i b hop hn
    rw [nilKind3 hn]
    split at h
    · rename_i a hnk
      obtain ⟨ke, el, hu⟩ := (hT.ti t).nk3 hnk
      obtain ⟨v, h1, h2⟩ := nil_run (P := P) hop (x := .map a) (y := .map none) (xo := xo) (yo := .const (.map none)) (t := t) (r := a.isNone)
        (by unfold eqGuard; cases op <;> rfl) (by rw [equal_eq]; exact equalIn_mp _ hu a) h (by rintro op (rfl | rfl) <;> rfl)
      exact ⟨v, w, h1, h2⟩
    · exact h.elim
  · rename_i b hop hn
    rw [nilKind4 hn]
    split at h
    · rename_i hnk
      obtain ⟨ms, hu⟩ := (hT.ti t).nk4 hnk
      obtain ⟨hi, h⟩ := h
      have hg : (eqGuard op t xo (.const .nilIface) x .nilIface).run P w = .ok () w := by
        unfold eqGuard
        cases op <;> (try rfl) <;> cases x <;> (try rfl) <;> (cases xo <;> rfl)
      have he : (Op.equal t x .nilIface).run P w = .ok (isNilV x) w := by
        rw [equal_eq]; exact equalIn_ifc _ hu hi
      obtain ⟨v, h1, h2⟩ := nil_run (P := P) hop (x := x) (y := .nilIface) (xo := xo) (yo := .const .nilIface) (t := t) (r := isNilV x) hg he h
        (by unfold isIfc at hi; split at hi <;> first | (cases hi; done) | (rintro op (rfl | rfl) <;> rfl))
      exact ⟨v, w, h1, h2⟩
    · exact h.elim
  · split at h
    · rename_i kk a kk' b hy
      rw [hy]
      split at h
      · rename_i hd
        rw [Bool.or_eq_true, decide_eq_true_eq] at hd
        obtain ⟨v, h1, h2⟩ := intBin_run (P := P) (w := w) (t := t) hd h
        refine ⟨v, w, ?_, h2⟩
        simp only [Sem.run_bind, eqGuard_int, Result.andThen, h1]
      · exact h.elim
    · rename_i a b hy
      rw [hy]
      have hg := eqGuard_str (P := P) (op := op) (t := t) (xo := xo) (yo := yo) (a := a) (b := b) (w := w)
      cases op <;> simp only [strBin] at h <;> (try exact h.elim)
      · obtain ⟨h1, h2⟩ := h
        refine ⟨.string (a ++ b), w, ?_, h2⟩
        have hm : ¬ (((a.size + b.size : Nat) : Int) > IntKind.i64.max) := by
          have : IntKind.i64.max = 9223372036854775807 := by decide
          rw [this]; omega
        simp only [Sem.run_bind, hg, Result.andThen, binOp, Op.stringOp, if_neg hm, Sem.run_pure]
      · exact ⟨_, w, by simp only [Sem.run_bind, hg, Result.andThen, binOp, Op.stringOp, Sem.run_pure], h⟩
      · exact ⟨_, w, by simp only [Sem.run_bind, hg, Result.andThen, binOp, Op.stringOp, Sem.run_pure], h⟩
    · rename_i a b hy
      rw [hy]
      split at h
      · rename_i c hnk hop
        have hu := (hT.ti t).nk6 hnk
        obtain ⟨v, h1, h2⟩ := nil_run (P := P) hop (x := .bool a) (y := .bool b) (xo := xo) (yo := yo) (t := t) (r := a == b) eqGuard_bool
          (by rw [equal_eq]; exact equalIn_bool _ hu a b) h (by rintro op (rfl | rfl) <;> rfl)
        exact ⟨v, w, h1, h2⟩
      · exact h.elim
    · exact runT_ok (hT.ti ty).toLdOk h

theorem setAt_get {off : Nat} {vs cells : List Value} (h : off + vs.length ≤ cells.length) (j : Nat) : (setAt off vs cells)[j]? = if off ≤ j ∧ j < off + vs.length then vs[j - off]? else cells[j]? := by
  unfold setAt
  by_cases h1 : j < off
  · rw [if_neg (by omega), List.append_assoc, List.getElem?_append_left (by simp; omega), List.getElem?_take, if_pos h1]
  · by_cases h2 : j < off + vs.length
    · rw [if_pos ⟨by omega, h2⟩, List.append_assoc, List.getElem?_append_right (by simp; omega), List.getElem?_append_left (by simp; omega)]
      simp only [List.length_take]
      rw [Nat.min_eq_left (by omega)]
    · rw [if_neg (by omega), List.getElem?_append_right (by simp; omega), List.getElem?_drop]
      congr 1
      simp only [List.length_append, List.length_take]
      rw [Nat.min_eq_left (by omega)]
      omega
theorem foldl_zipIdx_get (off : Nat) : ∀ (vs : List Value) (s : Nat) (cs : Array Value), off + s + vs.length ≤ cs.size → ∀ j,
    (((vs.zipIdx s).foldl (fun cs (x : Value × Nat) => cs.setIfInBounds (off + x.2) x.1) cs).toList)[j]? = if off + s ≤ j ∧ j < off + s + vs.length then vs[j - (off + s)]? else cs.toList[j]? := by
  intro vs
  induction vs with
  | nil => intro s cs _ j; rw [if_neg (by rw [List.length_nil]; omega)]; simp
  | cons v vs ih =>
    intro s cs hle j
    simp only [List.zipIdx_cons, List.foldl_cons]
    rw [ih (s + 1) _ (by simp at hle ⊢; omega) j]
    simp only [List.length_cons] at hle ⊢
    by_cases h1 : j = off + s
    · subst h1
      have hlt : off + s < cs.size := by omega
      rw [if_neg (by omega), if_pos (by omega)]
      simp [hlt]
    · by_cases h2 : off + (s + 1) ≤ j ∧ j < off + (s + 1) + vs.length
      · rw [if_pos h2, if_pos (by omega)]
        obtain ⟨d, hd⟩ : ∃ d, j - (off + s) = d + 1 := ⟨j - (off + s) - 1, by omega⟩
        rw [hd, show j - (off + (s + 1)) = d by omega]
        simp
      · rw [if_neg h2, if_neg (by omega)]
        simp [Ne.symm h1]
theorem foldl_zipIdx_set (off : Nat) (vs : List Value) (cs : Array Value) (h : off + vs.length ≤ cs.size) :
    ((vs.zipIdx.foldl (fun cs (x : Value × Nat) => cs.setIfInBounds (off + x.2) x.1) cs).toList) = setAt off vs cs.toList := by
  apply List.ext_getElem?
  intro j
  rw [foldl_zipIdx_get off vs 0 cs (by simpa using h) j, setAt_get (by simpa using h) j, Nat.add_zero]
theorem fillL_imp {p1 p2 : Nat → Option (Nat × Nat)} (hp : ∀ i x, p1 i = some x → p2 i = some x) : ∀ (l : List (Nat × Value)) (cs r : List Value), fillL p1 cs l = some r → fillL p2 cs l = some r
  | [], _, _, h => h
  | (i, v) :: l, cs, r, h => by
    unfold fillL at h ⊢
    cases h1 : p1 i with
    | none => simp only [h1] at h; cases h
    | some x =>
      obtain ⟨off, size⟩ := x
      simp only [h1, hp i _ h1] at h ⊢
      cases hb : (Nat.beq v.cells.toList.length size && Nat.ble (off + v.cells.toList.length) cs.length) with
      | false => rw [hb] at h; cases h
      | true =>
        rw [hb] at h
        simp only [cond_true] at h ⊢
        exact fillL_imp hp l _ _ h
theorem fill_list (place : Nat → Option (Nat × Nat)) : ∀ (l : List (Nat × Value)) (cs : Array Value) (r : List Value), fillL place cs.toList l = some r → Instr.fill place cs l = some r.toArray := by
  intro l
  induction l with
  | nil => intro cs r h; simp [fillL] at h; subst h; simp [Instr.fill]
  | cons x l ih =>
    obtain ⟨i, v⟩ := x
    intro cs r h
    simp only [fillL] at h
    simp only [Instr.fill]
    cases hp : place i with
    | none => simp [hp] at h
    | some os =>
      obtain ⟨off, size⟩ := os
      simp only [hp] at h
      cases hc : (Nat.beq v.cells.toList.length size && Nat.ble (off + v.cells.toList.length) cs.toList.length) with
      | false => rw [hc] at h; cases h
      | true =>
        rw [hc] at h
        simp only [cond_true] at h
        rw [Bool.and_eq_true] at hc
        have h1 : v.cells.size = size := by simpa using Nat.eq_of_beq_eq_true hc.1
        have h2 : off + v.cells.size ≤ cs.size := by simpa using Nat.le_of_ble_eq_true hc.2
        have hcond : (decide (v.cells.size ≠ size) || decide (off + v.cells.size > cs.size)) = false := by simp [h1]; omega
        simp only [ne_eq, Bool.or_eq_true, decide_eq_true_eq]
        rw [if_neg (by intro hh; rcases hh with hh | hh <;> omega)]
        refine ih _ r ?_
        rw [← h]
        congr 1
        have := foldl_zipIdx_set off v.cells.toList cs (by simpa using h2)
        rw [← this]
        congr 1
        rw [← Array.foldl_toList]
        simp

theorem repL_range (zv : Array Value) : ∀ len, zv.size ≠ 0 → ((Array.range (len * zv.size)).map (zv[· % zv.size]!)).toList = repL len zv.toList := by
  intro len hz
  apply List.ext_getElem?
  intro j
  have key : ∀ len j, (repL len zv.toList)[j]? = if j < len * zv.size then zv[j % zv.size]? else none := by
    intro len
    induction len with
    | zero => intro j; simp [repL]
    | succ n ih =>
      intro j
      simp only [repL, List.getElem?_append, Array.length_toList]
      by_cases h : j < zv.size
      · rw [if_pos h, if_pos (by rw [Nat.succ_mul]; omega), Nat.mod_eq_of_lt h]; simp
      · rw [if_neg h, ih]
        have h2 : (j - zv.size) % zv.size = j % zv.size := by
          rw [← Nat.mod_eq_sub_mod (by omega)]
        rw [h2, Nat.succ_mul]
        by_cases h3 : j - zv.size < n * zv.size
        · rw [if_pos h3, if_pos (by omega)]
        · rw [if_neg h3, if_neg (by omega)]
  rw [key]
  by_cases h : j < len * zv.size
  · rw [if_pos h]
    have hm : j % zv.size < zv.size := Nat.mod_lt _ (by omega)
    simp [h, hm]
  · rw [if_neg h]
    simp; omega

theorem runK_mono0 {k k' : Value → World → Prop} (hk : ∀ v w, k v w → k' v w) {r : Result Next} (h : runK P k r) : runK P k' r := by
  unfold runK at *
  split at h
  · exact hk _ _ h
  · exact hk _ _ h
  · exact h.mono fun e w hh => by cases e <;> first | exact hk _ _ hh | exact hh
  · exact h.mono fun e w hh => by cases e <;> first | exact hk _ _ hh | exact hh
  · exact h.elim
theorem opK_run (hT : TOk P T) {o : Oper} {e : Env} {w : World} {k : Value → World → Prop}
    (h : opK P T o e w k) : runK P k ((execOp (ev e) o).run P w) := by
  obtain ⟨dst, op, ty, pos, after, guard⟩ := o
  cases op <;> simp only [opK] at h <;> try exact h
  case pick c a b =>
    split at h
    · rename_i t ht
      cases t with
      | true => simp only [execOp, ht, asBool, Sem.run_bind, Sem.run_pure, Result.andThen, if_true]; exact h
      | false => simp only [execOp, ht, asBool, Sem.run_bind, Sem.run_pure, Result.andThen, Bool.false_eq_true, if_false]; exact h
    · exact h.elim
  case load t x =>
    split at h
    · rename_i sz hsz
      unfold adK at h
      split at h
      · rename_i a ha
        obtain ⟨p, hp, hk⟩ := h
        have := run_loadVar (hT.ti t).toLdOk hsz hp
        simp only [execOp, Instr.loadAt, ha, Instr.sureAddr, Sem.run_bind, Sem.run_pure, Result.andThen, this]
        exact hk
      · exact h.elim
    · exact h.elim
  case nilCheck x =>
    split at h
    · rename_i p hp
      obtain ⟨a, rfl, hk⟩ := h
      simp only [execOp, hp, Sem.run_pure]
      exact hk
    · rename_i g fst cap hp
      simp only [execOp, hp, Sem.run_pure]
      exact h
    · exact h.elim
  case box t x =>
    have := h.use
    simp only [execOp, Instr.box, newVar, newRow, Sem.run_bind, Sem.run_pure, Result.andThen]
    exact this
  case alloc t =>
    split at h
    · rename_i z hz
      obtain ⟨v, hv, hcs⟩ := (hT.ti t).zero z hz
      have := h.use
      simp only [execOp, Instr.alloc, newVar, newRow, Sem.run_bind, Sem.run_pure, Result.andThen, hv, hcs]
      exact this
    · exact h.elim
  case fieldAddr t x f =>
    split at h
    · rename_i n hn
      unfold adK at h
      split at h
      · rename_i a ha
        obtain ⟨fields, fld, hu, hf, ho, m, hm, hm0⟩ := (hT.ti t).offs f n hn
        simp only [execOp, Instr.fieldAt, fieldPlace, ha, Instr.sureAddr, Sem.run_bind, Sem.run_pure, Result.andThen, hu, hf, hm, hm0, if_false, ho]
        exact h
      · exact h.elim
    · exact h.elim
  case indexAddr t x i =>
    split at h
    · rename_i z hz hal
      rcases (hT.ti t).esz z hz with ⟨_, el, hu, hs, _⟩ | ⟨n, hn, _⟩
      · split at h
        · rename_i base n c k' j hx hi
          obtain ⟨hj, a, rfl, hk⟩ := h
          simp only [execOp, Instr.indexAt, hx, hi, asIntOf, Sem.run_bind, Sem.run_pure, Result.andThen, hu, hs, hj, and_self, if_true]
          exact hk
        · exact h.elim
      · rw [hn] at hal; cases hal
    · rename_i z n hz hal
      rcases (hT.ti t).esz z hz with ⟨hn, _⟩ | ⟨n', hn, el, hu, hs⟩
      · rw [hn] at hal; cases hal
      · rw [hn] at hal
        cases hal
        split at h
        · rename_i k' j hi
          unfold adK at h
          split at h
          · rename_i a ha
            obtain ⟨hn1, hj, hk⟩ := h
            simp only [execOp, Instr.indexAt, ha, hi, asIntOf, Sem.run_bind, Sem.run_pure, Result.andThen, hu, hs, Instr.sureAddr, hj, and_self, if_true]
            exact hk
          · exact h.elim
        · exact h.elim
    · exact h.elim
  case store t x y =>
    split at h
    · rename_i n hn
      have hsz := (hT.ti t).sz n hn
      unfold adK at h
      split at h
      · rename_i a ha
        replace h : ((ev e y).cells.size = n ∧ (ev e y).cells.toList.all oneCell = true) ∧ StoreK a (ev e y).cells.toList w fun w' => k undef w' := by
          split at h
          · obtain ⟨h1, h2, h3⟩ := h
            have hc : (ev e y).cells = #[ev e y] := by
              generalize ev e y = u at h1 ⊢
              cases u <;> first | rfl | simp [oneCell] at h1
            rw [hc]
            exact ⟨⟨by simp [h2], by simp [h1]⟩, h3⟩
          · obtain ⟨hb, h⟩ := h.out
            rw [Bool.and_eq_true] at hb
            exact ⟨⟨Nat.eq_of_beq_eq_true hb.1, hb.2⟩, h⟩
        obtain ⟨⟨hcs, hone⟩, ⟨hs, cs, t', lo, hi, hb, hlen, hfr⟩, hk⟩ := h
        obtain ⟨w', hr, hw⟩ := run_storeCells (P := P) (a := a) (ev e y).cells.toList 0 w (by rw [add_zero]; exact hs) (fun v hv => List.all_eq_true.1 hone v hv)
          (.inr ⟨cs, t', lo, hi, hb, by simpa using hlen, fun j h1 h2 => hfr j (by simpa using h1) (by simpa using h2)⟩)
        rw [add_zero] at hw
        simp only [execOp, Instr.storeAt, storeVar, ha, Instr.sureAddr, Sem.run_bind, Sem.run_pure, Result.andThen, hsz, hcs, ne_eq, not_true_eq_false, if_false, hr]
        exact hk w' hw
      · exact h.elim
    · exact h.elim
  case binOp op t x y yt =>
    obtain ⟨v, w', hr, hk⟩ := binK_run hT h
    simp only [execOp]
    simp only [Sem.run_bind] at hr ⊢
    rw [hr]
    simp only [Result.andThen, Sem.run_pure]
    exact hk
  case unOp op t x =>
    unfold unK at h
    split at h <;> first | exact h.elim | (rename_i hx; simp only [execOp, hx, Op.unary, Op.intArith, Op.intBits, Sem.run_bind, Sem.run_pure, Result.andThen]; exact h)
  case convert src dst x =>
    unfold convK at h
    split at h
    · rename_i kk n hx
      split at h
      · rename_i ks kk' hsk hik
        have hu := (hT.ti dst).ik kk' hik
        have hs := (hT.ti src).ik ks hsk
        simp only [execOp, hx, convert, Sem.run_bind, hu, hs, Result.andThen, Conv.intToInt, Sem.run_pure]
        exact h
      · exact h.elim
    · exact runT_run (hT.ti ty).toLdOk h
  case makeInterface t x =>
    split at h
    · rename_i hc
      obtain ⟨d, hu, hd⟩ := (hT.ti t).conc hc
      have : (Instr.makeInterface t (ev e x)).run P w = .ok (.iface t (ev e x)) w := by
        simp only [Instr.makeInterface, Sem.run_bind, hu, Result.andThen]
        cases d <;> first | rfl | exact absurd rfl (hd _)
      simp only [execOp, Sem.run_bind, this, Result.andThen, Sem.run_pure]
      exact h
    · exact h.elim
  case makeFunc fn fst cap =>
    simp only [execOp, Instr.makeFunc, Sem.run_bind, Sem.run_pure, Result.andThen]
    have e1 : (fst.toList.map (ev e)).toArray = fst.map (ev e) := by rw [← Array.toList_map]
    have e2 : (cap.toList.map (ev e)).toArray = cap.map (ev e) := by rw [← Array.toList_map]
    rw [e1, e2] at h
    exact h
  case build t parts =>
    split at h
    · rename_i pl z hpl hz
      split at h
      · rename_i cs hcs
        obtain ⟨zv, hzv, hzc⟩ := (hT.ti t).zero z hz
        have hmap : (parts.map fun (x : Nat × Operand) => (x.1, ev e x.2)).toList = parts.toList.map fun x => (x.1, ev e x.2) := by simp
        rcases (hT.ti t).places pl hpl with ⟨fields, hu, hpm⟩ | ⟨n, el, m, hu, hs, hpl2⟩
        case inr =>
          have hfill := fill_list _ _ _ _ (fillL_imp (p2 := fun i => some (i * m, m)) (fun i x hx => by rw [hpl2 i x hx]) _ _ _ hcs)
          have hrun : (Instr.build t (parts.map fun (x : Nat × Operand) => (x.1, ev e x.2))).run P w = .ok (.agg cs.toArray) w := by
            unfold Instr.build
            simp only [Sem.run_bind, hzv, Result.andThen, hu, hs, hzc]
            simp only [hmap, hfill, Sem.run_pure]
          simp only [execOp, Sem.run_bind, hrun, Result.andThen, Sem.run_pure]
          exact h
        have hfill := fill_list _ _ _ _ hcs
        have hrun : (Instr.build t (parts.map fun (x : Nat × Operand) => (x.1, ev e x.2))).run P w = .ok (.agg cs.toArray) w := by
          unfold Instr.build
          simp only [Sem.run_bind, hzv, Result.andThen, hu, Array.mapM_eq_mapM_toList, Sem.run_map, hpm, hzc]
          have : (fun (i : Nat) => (pl.toArray[i]? : Option (Nat × Nat))) = fun (i : Nat) => pl[i]? := by funext i; simp
          simp only [this, hmap, hfill, Sem.run_pure]
        simp only [execOp, Sem.run_bind, hrun, Result.andThen, Sem.run_pure]
        exact h
      · exact h.elim
    · exact h.elim
  case buildSlice t len parts =>
    split at h
    · rename_i z zv hz hal hez
      cases hle : Nat.ble (len * z) 1000 with
      | false => rw [hle] at h; exact h.elim
      | true =>
        rw [hle] at h
        simp only [cond_true] at h
        have hle' : len * z ≤ 1000 := Nat.le_of_ble_eq_true hle
        split at h
        · rename_i cs hcs
          rcases (hT.ti t).esz z hz with ⟨_, el, hu, hs, hel, zv', hzv', hzero, hzl⟩ | ⟨n, hn, _⟩
          · rw [hez] at hzv'
            cases hzv'
            have hmap : (parts.map fun (x : Nat × Operand) => (x.1, ev e x.2)).toList = parts.toList.map fun x => (x.1, ev e x.2) := by simp
            have hrun : (Instr.buildSlice t len (parts.map fun (x : Nat × Operand) => (x.1, ev e x.2))).run P w = .ok (.slice (some ⟨w.heap.size, 0, none⟩) len len) (w.alloc (.cells cs.toArray (T.ti t).etid)) := by
              unfold Instr.buildSlice
              simp only [Sem.run_bind, hu, Result.andThen, hs]
              rw [if_neg (by omega)]
              by_cases h0 : len * z = 0
              · have hrep : repL len zv = [] := by
                  rcases Nat.mul_eq_zero.1 h0 with h1 | h1
                  · subst h1; rfl
                  · have : zv = [] := by
                      cases zv with
                      | nil => rfl
                      | cons a b => simp at hzl; omega
                    subst this
                    have nil : ∀ n, repL n [] = [] := by
                      intro n
                      induction n with
                      | zero => rfl
                      | succ n ih => simp [repL, ih]
                    exact nil len
                rw [hrep] at hcs
                have hfill := fill_list _ _ (#[] : Array Value) _ hcs
                have hr0 : ((Array.range (len * z)).map fun i => (#[] : Array Value)[i % (#[] : Array Value).size]!) = #[] := by rw [h0]; apply Array.eq_empty_of_size_eq_zero; simp
                simp only [if_pos h0, hmap]
                show Sem.run P (match Instr.fill (fun i => some (i * z, z)) ((Array.range (len * z)).map fun i => (#[] : Array Value)[i % (#[] : Array Value).size]!) (List.map (fun x => (x.fst, ev e x.snd)) parts.toList) with
                  | some cells => do
                    let a ← newRow el cells
                    pure (Value.slice (some a) len len)
                  | _ => stuck "buildSlice: a part of the wrong size") w = _
                rw [hr0, hfill]
                simp only [newRow, Sem.run_bind, run_newObj_alloc, Result.andThen, Sem.run_pure, ← hel]
              · have hz0 : z ≠ 0 := fun hh => h0 (by rw [hh]; simp)
                obtain ⟨v, hv, hvc⟩ := hzero hz0
                have hsz : v.cells.size = z := by rw [← hzl, ← hvc]; simp
                have hrep := repL_range v.cells len (by omega)
                rw [hsz, hvc] at hrep
                have hfill := fill_list _ _ ((Array.range (len * z)).map (v.cells[· % z]!)) cs (by rw [hrep]; exact hcs)
                simp only [h0, if_false, Sem.run_bind, hv, Result.andThen, Sem.run_pure, hmap, hsz]
                rw [hfill]
                simp only [newRow, Sem.run_bind, run_newObj_alloc, Result.andThen, Sem.run_pure, ← hel]
            simp only [execOp, Sem.run_bind, hrun, Result.andThen, Sem.run_pure]
            exact h.use
          · rw [hn] at hal; cases hal
        · exact h.elim
    · exact h.elim
  case extract t i =>
    unfold tupAt at h
    split at h
    · rename_i vs hvs
      split at h
      · rename_i u hu
        have hu' : vs[i]? = some u := by simpa using hu
        simp only [execOp, hvs, Instr.extract, hu', Sem.run_bind, Sem.run_pure, Result.andThen]
        exact ofK_val (k := fun v => k v w) (hT.ti ty).toLdOk h
      · exact h.elim
    · exact h.elim
  case makeMap t r =>
    cases r with
    | none =>
      have := h.use
      simp only [execOp, Option.map_none, Instr.makeMap, Sem.run_bind, Sem.run_pure, Result.andThen]
      exact this
    | some r => exact h.elim
  case makeSlice t l c => exact runT_run (hT.ti ty).toLdOk h
  case slice t x lo hi mx => exact runT_run (hT.ti ty).toLdOk h
  case lookup t m i ok => exact runT_run (hT.ti ty).toLdOk h
  case index t x i => exact runT_run (hT.ti ty).toLdOk h
  case typeAssert x t t' ok => exact runT_run (hT.ti ty).toLdOk h
  case mapUpdate t m i x => exact runU_run h
  case insert t m i x => exact runU_run h
  case range t x =>
    obtain ⟨b, w', hr, hk⟩ := h
    simp only [execOp, Sem.run_bind, hr, Result.andThen, Sem.run_pure]
    exact hk
  case next it s =>
    obtain ⟨b, r, w', hr, hk⟩ := h
    simp only [execOp, Sem.run_bind, hr, Result.andThen, Sem.run_pure]
    exact hk
  case entry it =>
    obtain ⟨x, y, w', hr, hk⟩ := h
    simp only [execOp, Sem.run_bind, hr, Result.andThen, Sem.run_pure]
    exact hk
  case call c =>
    obtain ⟨callee, args, argTypes⟩ := c
    have eargs : (args.toList.map (ev e)).toArray = args.map (ev e) := by rw [← Array.toList_map]
    cases callee <;> simp only at h
    case value f =>
      unfold callK at h
      split at h
      · rename_i g first cap hf
        split at h
        · rename_i hg
          have hb := hT.fn g hg (first ++ args.map (ev e) ++ cap)
          have hargs : (first.toList ++ args.toList.map (ev e) ++ cap.toList).toArray = first ++ args.map (ev e) ++ cap := by simp
          rw [hargs] at h
          simp only [execOp, resolve, hf, Deferred.ofValue, Sem.run_bind, Sem.run_pure, Result.andThen, invoke, hb]
          refine Calls.mono h ?_
          intro e' w' hR
          cases e' with
          | returned v => exact ofK_val (k := fun v => k v w') (hT.ti ty).toLdOk hR
          | panicked c => exact hR.elim
          | outgrown => exact hR.elim
        · have hargs : (first.toList ++ args.toList.map (ev e) ++ cap.toList).toArray = first ++ args.map (ev e) ++ cap := by simp
          rw [hargs] at h
          simp only [execOp, resolve, hf, Deferred.ofValue, Sem.run_bind, Sem.run_pure, Result.andThen, invoke]
          exact runK_mono0 (fun v w' hh => ofK_val (k := fun v => k v w') (hT.ti ty).toLdOk hh) h
      · rename_i l first cap hf
        obtain ⟨f', tmps, asg, body, hy, hR⟩ := h
        have hargs : (first.toList ++ args.toList.map (ev e)).toArray = first ++ args.map (ev e) := by simp
        rw [hargs] at hy
        simp only [execOp, resolve, hf, Deferred.ofValue, Sem.run_bind, Sem.run_pure, Result.andThen, invoke, hy, runK]
        exact hR.mono fun e' w' hh => by
          cases e' with
          | returned v => exact ofK_val (k := fun v => k v w') (hT.ti ty).toLdOk hh
          | panicked c => exact hh.elim
          | outgrown => exact hh.elim
      · exact h.elim
    case invoke r m => exact h
    case builtin b =>
      rw [eargs] at h
      have go : ∀ {s : Sem Value}, (runT P (T.ti ty) s w fun p w' => k ((T.ti ty).val p) w') → (∀ cs v w', s.run P w = .ok v w' → (builtin b argTypes ty cs (args.map (ev e))).run P w = .ok (.value v) w') →
          runK P k ((execOp (ev e) { dst := dst, op := .call { callee := .builtin b, args := args, argTypes := argTypes }, type := ty, pos := pos, after := after, guard := guard }).run P w) := by
        intro s h hb
        obtain ⟨v, w', hr, hk⟩ := runT_ok (hT.ti ty).toLdOk h
        simp only [execOp, resolve, Sem.run_bind, Sem.run_pure, Result.andThen, invoke]
        rw [hb _ v w' hr]
        exact hk
      have rb : ∀ {s : Sem Value} {v : Value} {w' : World}, s.run P w = .ok v w' → (do pure (Next.value (← s)) : Sem Next).run P w = .ok (.value v) w' := by
        intro s v w' hr
        simp only [Sem.run_bind, hr, Result.andThen, Sem.run_pure]
      cases b
      case append => exact go h fun _ v w' hr => rb hr
      case copy => exact go h fun _ v w' hr => rb hr
      case delete => exact go h fun _ v w' hr => rb hr
      case clear => exact go h fun _ v w' hr => rb hr
      case min => exact go h fun _ v w' hr => rb hr
      case max => exact go h fun _ v w' hr => rb hr
      case cap => exact go h fun _ v w' hr => rb hr
      case len =>
        simp only at h
        have hargs : ∀ {v : Value}, args.toList.map (ev e) = [v] → args.map (ev e) = #[v] := by
          intro v hv; rw [← eargs, hv]
        split at h
        · rename_i v hv
          unfold lenK at h
          have fin : ∀ (u : Value) (w' : World), (Builtin.len_ argTypes ty #[v]).run P w = .ok u w' → k u w' → runK P k ((execOp (ev e) { dst := dst, op := .call { callee := .builtin .len, args := args, argTypes := argTypes }, type := ty, pos := pos, after := after, guard := guard }).run P w) := by
            intro u w' hr hk
            simp only [execOp, resolve, Sem.run_bind, Sem.run_pure, Result.andThen, invoke, builtin, hargs hv, hr]
            exact hk
          have one : ∀ n, argTypes.toList.map (fun t => (T.ti t).nk) = [n] → ∃ t, argTypes = #[t] ∧ (T.ti t).nk = n := by
            intro n hn
            obtain ⟨l⟩ := argTypes
            match l, hn with
            | [t], hn => exact ⟨t, rfl, by simpa using hn⟩
          split at h
          · rename_i a n c
            split at h
            · rename_i hn
              obtain ⟨t, ht, hnk⟩ := one 2 hn
              obtain ⟨el, hu⟩ := (hT.ti t).nk2 hnk
              exact fin _ w (by subst ht; simp [Builtin.len_, Sem.run_bind, hu, Result.andThen, goInt]) h
            · exact h.elim
          · rename_i s
            split at h
            · rename_i hn
              obtain ⟨t, ht, hnk⟩ := one 7 hn
              have hu := (hT.ti t).nk7 hnk
              exact fin _ w (by subst ht; simp [Builtin.len_, Sem.run_bind, hu, Result.andThen, goInt]) h
            · exact h.elim
          · obtain ⟨u, w', hr, hk⟩ := runT_ok (hT.ti ty).toLdOk h
            exact fin u w' hr hk
        · exact h.elim
      all_goals exact h.elim

end Go.Wf
