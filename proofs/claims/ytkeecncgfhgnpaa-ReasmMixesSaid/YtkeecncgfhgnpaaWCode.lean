/- A part of the proof: lemmas; nothing is claimed here. -/
import Derived.Test.YtkeecncgfhgnpaaWNestW
import Derived.RangeFuncLeaves
import Derived.RangeFuncRecord
import Derived.RangeFuncIn
set_option linter.all false
namespace Go.Wf
open Go Go.RowKit
variable {P : Program} {T : TT}

/-! ### Loops: which slots live on, of which types -/
structure LoopAnn where
  live : List (Nat × Nat)
  wr : List Nat
  ins : List Nat := []
def TyL (T : TT) : List (Nat × Nat) → Type
  | [] => Unit
  | (_, t) :: l => (T.ti t).ty × TyL T l
def envL (T : TT) : (L : List (Nat × Nat)) → TyL T L → Env → Env
  | [], _, d => d
  | (s, t) :: l, x, d => fun n => cond (Nat.beq n s) ((T.ti t).val x.1) (envL T l x.2 d n)
def projL (T : TT) : (L : List (Nat × Nat)) → Env → (TyL T L → Prop) → Prop
  | [], _, k => k ()
  | (s, t) :: l, e, k => match (T.ti t).of (e s) with
    | some x => projL T l e fun xs => k (x, xs)
    | none => False
def mergeE (W : List Nat) (d e : Env) : Env := fun n => cond (memB W n) (d n) (e n)

def thenE (next : Env → World → Prop) (Q : Exit → Env → World → Prop) : Exit → Env → World → Prop
  | .normal, e, w => next e w
  | x, e, w => Q x e w
def blockE (id : Nat) (Q : Exit → Env → World → Prop) : Exit → Env → World → Prop
  | .exit id', e, w => cond (Nat.beq id' id) (Q .normal e w) (Q (.exit id') e w)
  | x, e, w => Q x e w

/-! ### A range over a function -/
/-- Block l holds o from now on; all else is as it was. -/
structure Upd (w : World) (l : Nat) (o : Obj) (w' : World) : Prop where
  os : w'.os = w.os
  tape : w'.tape = w.tape
  output : w'.output = w.output
  size : w'.heap.size = w.heap.size
  other : ∀ k, k ≠ l → w'.heap[k]? = w.heap[k]?
  here : w'.heap[l]? = some o
theorem upd_putObj {w : World} {l : Nat} {o o' : Obj} (h : w.heap[l]? = some o') : Upd w l o (w.putObj l o) :=
  ⟨rfl, rfl, rfl, by simp, fun _ hk => World.putObj_heap_other hk, World.putObj_heap_same (Array.getElem?_eq_some_iff.1 h).1⟩
/-- The slot of the marks of loops over functions. -/
abbrev MS : Nat := 1000000
def marksL : Value → List Nat
  | .tuple vs => vs.toList.map fun v => match v with | .int _ d => d.toNat | _ => 0
  | _ => []
def pushMark (D : Nat) : Value → Value
  | .tuple vs => .tuple (.int .i64 D :: vs.toList).toArray
  | _ => .tuple #[.int .i64 D]
def defersOf (v : Value) : List Deferred := (marksL v).map fun D => { target := .collected D, args := #[] }
theorem defersOf_push (D : Nat) (v : Value) : defersOf (pushMark D v) = { target := .collected D, args := #[] } :: defersOf v := by
  cases v <;> simp [defersOf, pushMark, marksL]
def argE : Env → List Nat → List Value → Env
  | e, p :: ps, v :: vs => argE (upd e (some p) v) ps vs
  | e, _, _ => e
def iterK (P : Program) (T : TT) (f y : Value) (w : World) (k : World → Prop) : Prop := match f with
  | .func (.func g) first cap => (match T.fn g with
    | true => Calls P g ((first.toList ++ [y] ++ cap.toList).toArray) w (Ret fun _ w' => k w')
    | false => False)
  | _ => False
/-- A round's end. -/
def roundE (l : Nat) (rec : LoopState → Option Code → Obj) (k : Value → World → Prop) : Exit → World → Prop
  | .normal, w => w.heap[l]? = some (rec .busy none) ∧ ∀ w', Upd w l (rec .ready none) w' → k (.bool true) w'
  | .ret, w => w.heap[l]? = some (rec .busy none) ∧ ∀ w', Upd w l (rec .done (some .ret)) w' → k (.bool false) w'
  | .exit id, w => w.heap[l]? = some (rec .busy none) ∧ ∀ w', Upd w l (rec .done (some (.exit id))) w' → k (.bool false) w'
  | _, _ => False
def endX (l : Nat) (rec : LoopState → Option Code → Obj) (st : LoopState) (pe : Option Code) (w : World) (K : World → Prop) : Prop := w.heap[l]? = some (rec st pe) ∧ ∀ w', Upd w l (rec .exhausted pe) w' → K w'
def exitsE (l : Nat) (rec : LoopState → Option Code → Obj) (Q : Exit → World → Prop) (w : World) : List Nat → Prop
  | [] => False
  | id :: r => endX l rec .done (some (.exit id)) w (fun w' => Q (.exit id) w') ∨ exitsE l rec Q w r
/-- Behind the iterator. -/
def rangeE (l : Nat) (rec : LoopState → Option Code → Obj) (ids : List Nat) (Q : Exit → World → Prop) (w : World) : Prop :=
  endX l rec .ready none w (fun w' => Q .normal w') ∨ endX l rec .done (some .ret) w (fun w' => Q .ret w') ∨ exitsE l rec Q w ids
/-- All typed arguments. -/
def allArgs (T : TT) : List (Nat × Nat) → (List Value → Prop) → Prop
  | [], k => k []
  | t :: ts, k => ∀ x : (T.ti t.2).ty, allArgs T ts fun l => k ((T.ti t.2).val x :: l)
theorem allArgs_of {T : TT} : ∀ {ts : List (Nat × Nat)} {K : List Value → Prop}, (∀ args, args.length = ts.length → K args) → allArgs T ts K
  | [], _, h => h [] rfl
  | _ :: _, _, h => fun _ => allArgs_of fun args ha => h _ (by simp [ha])
/-- A loop over a function: Y tells of yield, Z of the iterator's call. -/
def rangeX (w : World) (Y : Nat → (LoopState → Option Code → Obj) → Prop) (Z : Nat → (LoopState → Option Code → Obj) → World → Prop) : Prop :=
  ∀ (rec : LoopState → Option Code → Obj) (w2 : World), Ext w w2 → w2.heap.size = w.heap.size + 2 → w2.heap[w.heap.size]? = some (.deferred (some [])) → w2.heap[w.heap.size + 1]? = some (rec .ready none) →
    Y (w.heap.size + 1) rec → Z (w.heap.size + 1) rec w2
/-- A round begins. -/
def roundX (l : Nat) (rec : LoopState → Option Code → Obj) (w : World) (B : World → Prop) : Prop := w.heap[l]? = some (rec .ready none) ∧ ∀ w', Upd w l (rec .busy none) w' → B w'
def rangeK (P : Program) (T : TT) (f : Value) (ts : List (Nat × Nat)) (ids : List Nat) (w : World) (A : List Value → World → (Env → World → Prop) → Prop) (B : Env → World → (Exit → World → Prop) → Prop) (Q : Exit → World → Prop) : Prop :=
  rangeX w (fun l rec => ∀ (W : World) (k : Value → World → Prop), allArgs T ts fun args => W.heap[l]? = some (rec .ready none) → A args W (fun e1 W1 => roundX l rec W1 fun W2 => B e1 W2 (roundE l rec k)) → yieldK P l args W k)
    fun l rec w2 => iterK P T f (.func (.yield l) #[] #[]) w2 (rangeE l rec ids Q)
def hasRange : Code → Bool
  | .seq a b => hasRange a || hasRange b
  | .cond _ a b => hasRange a || hasRange b
  | .block _ c => hasRange c
  | .loop c => hasRange c
  | .rangeFunc .. => true
  | .scope c => hasRange c
  | _ => false
def nloops : Code → Nat
  | .seq a b => nloops a + nloops b
  | .cond _ a b => nloops a + nloops b
  | .block _ c => nloops c
  | .loop c => nloops c + 1
  | .region _ _ d => cond d 1 0
  | .scope c => nloops c
  | .rangeFunc _ _ a b => nloops a + nloops b + 1
  | _ => 0

def codeK (P : Program) (T : TT) : Code → List LoopAnn → (Exit → Env → World → Prop) → Env → World → Prop
  | .skip, _, Q, e, w => Q .normal e w
  | .region _ ops d, an, Q, e, w => match d with
    | false => opsL P T ops (Q .normal) ops.toList e w
    | true => match an with
      | [] => False
      | A :: _ => nestR P T ops A.wr A.ins e w (Q .normal)
  | .seq a b, an, Q, e, w => codeK P T a an (thenE (codeK P T b (an.drop (nloops a)) Q) Q) e w
  | .cond c a b, an, Q, e, w => match ev e c with
    | .bool x => ifK x (codeK P T a an Q e w) (codeK P T b (an.drop (nloops a)) Q e w)
    | _ => False
  | .block id c, an, Q, e, w => codeK P T c an (blockE id Q) e w
  | .loop c, an, Q, e, w => match an with
    | [] => False
    | A :: an' => ∃ (I : TyL T A.live → World → Prop) (μ : TyL T A.live → World → Nat), projL T A.live e (fun x => I x w) ∧
        ∀ (x : TyL T A.live) (w' : World), I x w' → ∀ d : Env,
          codeK P T c an' (thenE (fun e' w'' => projL T A.live e' (fun x' => I x' w'' ∧ μ x' w'' < μ x w')) Q) (mergeE A.wr (envL T A.live x d) e) w'
  | .rangeFunc f ps asg body, an, Q, e, w => match an with
    | [] => False
    | A :: an' => rangeK P T (ev e f) A.live A.ins w
        (fun args W k => codeK P T asg an' (thenE k fun _ _ _ => False) (argE (upd e (some MS) undef) ps.toList args) W)
        (fun e1 W k => codeK P T body (an'.drop (nloops asg)) (fun x _ w' => k x w') e1 W)
        (fun x w' => Q x (upd e (some MS) (pushMark w.heap.size (e MS))) w')
  | .exit id, _, Q, e, w => Q (.exit id) e w
  | .ret, _, Q, e, w => Q .ret e w
  | _, _, _, _, _ => False

/-- All temporaries lie below n; what is written lies in W (within a loop: in the loop's own list). -/
def okCode (T : TT) (n : Nat) : Code → List LoopAnn → List Nat → Bool
  | .skip, _, _ => true
  | .region _ ops d, an, W => ops.toList.all (okOp n W ops) && (match d with
    | false => true
    | true => match an with
      | [] => false
      | A :: _ => nestChk T ops A.wr A.ins)
  | .seq a b, an, W => okCode T n a an W && okCode T n b (an.drop (nloops a)) W
  | .cond c a b, an, W => okOperand n c && okCode T n a an W && okCode T n b (an.drop (nloops a)) W
  | .block _ c, an, W => okCode T n c an W
  | .loop c, an, W => match an with
    | [] => false
    | A :: an' => (A.live.all fun x => Nat.blt x.1 n && memB A.wr x.1) && A.wr.all (fun t => memB W t) && okCode T n c an' A.wr && !hasRange c
  | .rangeFunc f ps asg body, an, W => match an with
    | [] => false
    | A :: an' => okOperand n f && (Nat.beq A.live.length ps.size && ps.toList.all (fun t => Nat.blt t n) && (okCode T n asg an' W && (okCode T n body (an'.drop (nloops asg)) W && (!hasRange asg && !hasRange body))))
  | .exit _, _, _ => true
  | .ret, _, _ => true
  | _, _, _ => false

def projO (T : TT) : (L : List (Nat × Nat)) → Env → Option (TyL T L)
  | [], _ => some ()
  | (s, t) :: l, e => match (T.ti t).of (e s), projO T l e with
    | some x, some xs => some (x, xs)
    | _, _ => none
theorem projL_iff : ∀ (L : List (Nat × Nat)) (e : Env) (k : TyL T L → Prop), projL T L e k ↔ ∃ x, projO T L e = some x ∧ k x
  | [], e, k => ⟨fun h => ⟨(), rfl, h⟩, fun ⟨_, _, hk⟩ => hk⟩
  | (s, t) :: l, e, k => by
    unfold projL projO
    cases h : (T.ti t).of (e s) with
    | none => simp
    | some x =>
      simp only
      rw [projL_iff l]
      cases h2 : projO T l e with
      | none => simp
      | some xs => 
        constructor
        · rintro ⟨y, hy, hk⟩
          injection hy with hy
          subst hy
          exact ⟨(x, xs), rfl, hk⟩
        · rintro ⟨y, hy, hk⟩
          have hy' : (x, xs) = y := Option.some.inj hy
          subst hy'
          exact ⟨xs, rfl, hk⟩
theorem projO_congr : ∀ (L : List (Nat × Nat)) (e e' : Env), (∀ x ∈ L, e x.1 = e' x.1) → projO T L e = projO T L e'
  | [], _, _, _ => rfl
  | (s, t) :: l, e, e', h => by
    unfold projO
    rw [h (s, t) (by simp), projO_congr l e e' (fun x hx => h x (by simp [hx]))]
/-- What was projected out stands in the slots. -/
theorem envL_of_projO (hT : TOk P T) : ∀ (L : List (Nat × Nat)) (e : Env) (x : TyL T L), projO T L e = some x → envL T L x e = e
  | [], _, _, _ => rfl
  | (s, t) :: l, e, x, h => by
    unfold projO at h
    cases h1 : (T.ti t).of (e s) with
    | none => simp [h1] at h
    | some y =>
      cases h2 : projO T l e with
      | none => simp [h1, h2] at h
      | some ys =>
        simp only [h1, h2] at h
        have h' : (y, ys) = x := Option.some.inj h
        subst h'
        funext n
        simp only [envL]
        rw [envL_of_projO hT l e ys h2]
        by_cases hn : n = s
        · subst hn
          simp [(hT.ti t).of _ _ h1]
        · have : Nat.beq n s = false := by
            cases hb : Nat.beq n s with
            | false => rfl
            | true => exact absurd (Nat.eq_of_beq_eq_true hb) hn
          simp [this]
theorem mergeE_agree {W : List Nat} {e e' : Env} (h : Agree W e e') : mergeE W e' e = e' := by
  funext n
  unfold mergeE
  cases hb : memB W n with
  | true => rfl
  | false => exact (h n hb).symm
theorem Agree.mono {W W' : List Nat} {e e' : Env} (h : Agree W e e') (hs : ∀ t ∈ W, memB W' t = true) : Agree W' e e' := fun t ht => h t (by
  cases hb : memB W t with
  | false => rfl
  | true =>
    have := hs t ((memB_iff W t).1 hb)
    rw [this] at ht; cases ht)

/-- What is written lies in W; but for a loop over a function the marks are as they were. -/
def AgreeR (r : Bool) (W : List Nat) (e e' : Env) : Prop := ∀ t, memB W t = false → (r = true → t ≠ MS) → e' t = e t
theorem AgreeR.of {W : List Nat} {e e' : Env} (h : Agree W e e') (r : Bool) : AgreeR r W e e' := fun t ht _ => h t ht
theorem AgreeR.false {W : List Nat} {e e' : Env} (h : AgreeR false W e e') : Agree W e e' := fun t ht => h t ht (fun hh => by cases hh)
theorem AgreeR.mono {r r' : Bool} {W : List Nat} {e e' : Env} (h : AgreeR r W e e') (hr : r = true → r' = true) : AgreeR r' W e e' := fun t ht hm => h t ht fun hh => hm (hr hh)
theorem AgreeR.trans {r : Bool} {W : List Nat} {a b c : Env} (h : AgreeR r W a b) (k : AgreeR r W b c) : AgreeR r W a c := fun t ht hm => (k t ht hm).trans (h t ht hm)
theorem AgreeR.wide {r : Bool} {W W' : List Nat} {e e' : Env} (h : AgreeR r W e e') (hs : ∀ t ∈ W, memB W' t = true) : AgreeR r W' e e' := fun t ht hm => h t (by
  cases hb : memB W t with
  | false => rfl
  | true =>
    have := hs t ((memB_iff W t).1 hb)
    rw [this] at ht; cases ht) hm
def postM (n : Nat) (r : Bool) (W : List Nat) (e : Env) (Q : Exit → Env → World → Prop) : Exit → Act → World → Prop :=
  fun x a w => ∃ e', Rep n a e' ∧ a.defers = defersOf (e' MS) ∧ AgreeR r W e e' ∧ Q x e' w
theorem postM_of {n : Nat} {D : List Deferred} {W : List Nat} {e : Env} {Q : Exit → Env → World → Prop} (hD : D = defersOf (e MS)) (hW : memB W MS = false) (r : Bool) {x : Exit} {a : Act} {w : World} (h : postA n D W e Q x a w) : postM n r W e Q x a w := by
  obtain ⟨e', h1, h2, h3, h4⟩ := h
  exact ⟨e', h1, by rw [h2, hD, h3 MS hW], AgreeR.of h3 r, h4⟩
theorem Rep.out {n d : Nat} {a : Act} {e : Env} (h : Rep n a e) (hd : n ≤ d) (v : Value) : Rep n a (upd e (some d) v) := ⟨h.1, fun t ht => by rw [h.2 t ht, upd_other e (by omega)]⟩
theorem Rep.args {n : Nat} : ∀ (ps : List Nat) (vs : List Value) (tmps : Array Value) (e : Env), ps.length = vs.length → (∀ p ∈ ps, p < n) → Rep n { tmps := tmps, defers := [] } e →
    Rep n { tmps := ((ps.zip vs).foldl (fun t (x : Nat × Value) => t.setIfInBounds x.1 x.2) tmps), defers := [] } (argE e ps vs)
  | [], [], _, _, _, _, h => h
  | p :: ps, v :: vs, tmps, e, hl, hp, h => by
    have h2 : Rep n { tmps := tmps.setIfInBounds p v, defers := [] } (upd e (some p) v) := by
      have := Rep.put h (W := [p]) (d := some p) (by simp [okDst, memB, Nat.blt_eq, hp p (by simp)]) v
      exact this
    simp only [List.zip_cons_cons, List.foldl_cons, argE]
    exact Rep.args ps vs _ _ (by simpa using hl) (fun q hq => hp q (by simp [hq])) h2
  | [], _ :: _, _, _, hl, _, _ => by simp at hl
  | _ :: _, [], _, _, hl, _, _ => by simp at hl
theorem argE_other : ∀ (ps : List Nat) (vs : List Value) (e : Env) (d : Nat), (∀ p ∈ ps, p ≠ d) → argE e ps vs d = e d
  | [], _, _, _, _ => rfl
  | _ :: _, [], _, _, _ => rfl
  | p :: ps, v :: vs, e, d, h => by
    simp only [argE]
    rw [argE_other ps vs _ d (fun q hq => h q (by simp [hq])), upd_other e (Ne.symm (h p (by simp)))]
theorem wpIn_mono2 {F : Fence} {n : Nat} {c : Code} {Q Q' : Exit → Act → World → Prop} {a : Act} {w : World} (h : c.wpIn F n P Q a w) (hq : ∀ x a w, Q x a w → Q' x a w) : c.wpIn F n P Q' a w := wpIn_mono h hq

theorem codeK_sound (hT : TOk P T) {n : Nat} (hn : n ≤ MS) : ∀ (c : Code) (ro : Option Nat) (m : Nat) (an : List LoopAnn) (W : List Nat) (_ : okCode T n c an W = true) (_ : memB W MS = false) (_ : hasRange c = true → ro = none) (Q : Exit → Env → World → Prop) (e : Env) (a : Act) (w : World),
    Rep n a e → a.defers = defersOf (e MS) → codeK P T c an Q e w → c.wpIn (fenceR ro) m P (postM n (hasRange c) W e Q) a w := by
  intro c
  induction c with
  | skip => intro ro m an W _ _ _ Q e a w hr hd h; exact wpIn_skip ⟨e, hr, hd, AgreeR.of (Agree.refl _ _) _, h⟩
  | region id ops d =>
    intro ro m an W hok hW _ Q e a w hr hd h
    simp only [codeK] at h
    simp only [okCode, Bool.and_eq_true] at hok
    obtain ⟨hok, hdr⟩ := hok
    cases d with
    | false =>
      refine wpIn_mono2 (Q := postA n a.defers W e Q) (wpIn_region ?_) fun x a w hh => postM_of hd hW _ hh
      exact opsL_sound hT ro m hok _ e a w hr rfl (Agree.refl _ _) (by rw [filterMap_range]; exact h)
    | true =>
      cases an with
      | nil => cases hdr
      | cons A an' =>
        exact wpIn_mono2 (Q := postA n a.defers W e Q) (wpIn_region_any hT.mixed (nest_sound hT ro m hdr hok hr rfl h)) fun x a w hh => postM_of hd hW _ hh
  | seq x y ihx ihy =>
    intro ro m an W hok hW hro Q e a w hr hd h
    simp only [okCode, Bool.and_eq_true] at hok
    simp only [codeK] at h
    simp only [hasRange, Bool.or_eq_true] at hro
    refine wpIn_seq (wpIn_mono (ihx ro m an W hok.1 hW (fun hh => hro (.inl hh)) _ e a w hr hd h) ?_)
    rintro ex a1 w1 ⟨e1, hr1, hd1, hag1, hq⟩
    have hag1' : AgreeR (hasRange (x.seq y)) W e e1 := hag1.mono fun hh => by simp [hasRange, hh]
    cases ex with
    | normal =>
      refine wpIn_mono (ihy ro m _ W hok.2 hW (fun hh => hro (.inr hh)) Q e1 a1 w1 hr1 hd1 hq) ?_
      rintro ex2 a2 w2 ⟨e2, hr2, hd2, hag2, hq2⟩
      exact ⟨e2, hr2, hd2, hag1'.trans (hag2.mono fun hh => by simp [hasRange, hh]), hq2⟩
    | _ => exact ⟨e1, hr1, hd1, hag1', hq⟩
  | cond c x y ihx ihy =>
    intro ro m an W hok hW hro Q e a w hr hd h
    simp only [okCode, Bool.and_eq_true] at hok
    simp only [codeK] at h
    simp only [hasRange, Bool.or_eq_true] at hro
    split at h
    · rename_i b hb
      have hev : a.eval c = .bool b := by rw [hr.eval hok.1.1]; exact hb
      cases b with
      | true =>
        refine wpIn_mono2 (wpIn_cond_true hev (ihx ro m an W hok.1.2 hW (fun hh => hro (.inl hh)) Q e a w hr hd h)) ?_
        rintro x a w ⟨e1, h1, h2, h3, h4⟩
        exact ⟨e1, h1, h2, h3.mono fun hh => by simp [hasRange, hh], h4⟩
      | false =>
        refine wpIn_mono2 (wpIn_cond_false hev (ihy ro m _ W hok.2 hW (fun hh => hro (.inr hh)) Q e a w hr hd h)) ?_
        rintro x a w ⟨e1, h1, h2, h3, h4⟩
        exact ⟨e1, h1, h2, h3.mono fun hh => by simp [hasRange, hh], h4⟩
    · exact h.elim
  | block id c ih =>
    intro ro m an W hok hW hro Q e a w hr hd h
    simp only [okCode] at hok
    simp only [codeK] at h
    refine wpIn_block (wpIn_mono (ih ro m an W hok hW hro _ e a w hr hd h) ?_)
    rintro ex a1 w1 ⟨e1, hr1, hd1, hag1, hq⟩
    cases ex with
    | exit id' =>
      simp only [Exit.inBlock]
      simp only [blockE] at hq
      by_cases hid : id' = id
      · subst hid
        simp only [Nat.beq_refl, cond_true, if_true] at hq ⊢
        exact ⟨e1, hr1, hd1, hag1, hq⟩
      · have : Nat.beq id' id = false := by
          cases hb : Nat.beq id' id with
          | false => rfl
          | true => exact absurd (Nat.eq_of_beq_eq_true hb) hid
        rw [if_neg hid]
        rw [this] at hq
        exact ⟨e1, hr1, hd1, hag1, hq⟩
    | _ => exact ⟨e1, hr1, hd1, hag1, hq⟩
  | loop c ih =>
    intro ro m an W hok hW hro Q e a w hr hd h
    cases an with
    | nil => simp [okCode] at hok
    | cons A an' =>
      simp only [okCode, Bool.and_eq_true, Bool.not_eq_true'] at hok
      obtain ⟨⟨⟨hlive, hwr⟩, hbody⟩, hnr⟩ := hok
      simp only [codeK] at h
      obtain ⟨I, μ, h0, hround⟩ := h
      have hwr' : ∀ t ∈ A.wr, memB W t = true := fun t ht => List.all_eq_true.1 hwr t ht
      have hAW : memB A.wr MS = false := by
        cases hb : memB A.wr MS with
        | false => rfl
        | true =>
          have := hwr' _ ((memB_iff _ _).1 hb)
          rw [hW] at this; cases this
      let ea : Act → Env := fun a => fun t => (a.tmps[t]?).getD undef
      have hea : ∀ {a' : Act} {e' : Env}, Rep n a' e' → projO T A.live (ea a') = projO T A.live e' := fun hr' => projO_congr _ _ _ fun x hx => by
        have := List.all_eq_true.1 hlive x hx
        simp only [Bool.and_eq_true, Nat.blt_eq] at this
        simp [ea, hr'.2 x.1 this.1]
      refine wpIn_loop (fun a' w' => ∃ e', Rep n a' e' ∧ a'.defers = defersOf (e' MS) ∧ Agree A.wr e e' ∧ projL T A.live e' (fun x => I x w'))
        (fun a' w' => match projO T A.live (ea a') with | some x => μ x w' | none => 0) ⟨e, hr, hd, Agree.refl _ _, h0⟩ ?_
      rintro a1 w1 ⟨e1, hr1, hd1, hag1, hp1⟩
      obtain ⟨x, hx, hI⟩ := (projL_iff _ _ _).1 hp1
      have hmerge : mergeE A.wr (envL T A.live x e1) e = e1 := by
        rw [envL_of_projO hT _ _ _ hx]; exact mergeE_agree hag1
      have hk := hround x w1 hI e1
      rw [hmerge] at hk
      refine wpIn_mono (ih ro m an' A.wr hbody hAW hro _ e1 a1 w1 hr1 hd1 hk) ?_
      rintro ex a2 w2 ⟨e2, hr2, hd2, hag2, hq⟩
      rw [hnr] at hag2
      have hag2 := hag2.false
      cases ex with
      | normal =>
        simp only [thenE] at hq
        obtain ⟨x', hx', hI', hμ⟩ := (projL_iff _ _ _).1 hq
        refine ⟨⟨e2, hr2, hd2, hag1.trans hag2, (projL_iff _ _ _).2 ⟨x', hx', hI'⟩⟩, ?_⟩
        simp only [hea hr1, hea hr2, hx, hx']
        exact hμ
      | _ => exact ⟨e2, hr2, hd2, AgreeR.of ((hag1.trans hag2).mono hwr') _, hq⟩
  | rangeFunc f ps asg body iha ihb =>
    intro ro m an W hok hW hro Q e a w hr hd h
    have hro' : ro = none := hro rfl
    subst hro'
    cases an with
    | nil => simp [okCode] at hok
    | cons A an' =>
      simp only [okCode, Bool.and_eq_true, Bool.not_eq_true'] at hok
      obtain ⟨hf, ⟨hlive, hps⟩, hasg, hbody, hra, hrb⟩ := hok
      have hlive := Nat.eq_of_beq_eq_true hlive
      simp only [codeK] at h
      have hps' : ∀ p ∈ ps.toList, p < n := fun p hp => by simpa [Nat.blt_eq] using List.all_eq_true.1 hps p hp
      refine wpIn_rangeFunc ?_
      intro fn hfn
      obtain ⟨rec, hrec⟩ : ∃ rec : LoopState → Option Code → Loop, rec = fun st pe => { state := st, pending := pe, fn, tmps := a.tmps, params := ps, assign := asg, body, defers := w.heap.size } := ⟨_, rfl⟩
      obtain ⟨W1, hW1⟩ : ∃ W1, (w.alloc (.deferred (some []))).alloc (.loop (rec .ready none)) = W1 := ⟨_, rfl⟩
      have hL1 : W1.heap[w.heap.size + 1]? = some (.loop (rec .ready none)) := by
        rw [← hW1]; have := World.alloc_heap_new (w.alloc (.deferred (some []))) (.loop (rec .ready none)); rwa [World.size_alloc] at this
      have hK1 : W1.heap[w.heap.size]? = some (.deferred (some [])) := by
        rw [← hW1]; exact (Below.heap_alloc _ _ _ (by simp)).trans (World.alloc_heap_new w _)
      have hx1 : Ext w W1 := by
        rw [← hW1]
        refine ⟨rfl, rfl, rfl, by simp; omega, fun k hk _ => ?_⟩
        rw [Below.heap_alloc _ _ _ (by simp; omega), Below.heap_alloc _ _ _ hk]
      have hy : ∀ (args : List Value) (V : World) (k : Value → World → Prop), args.length = ps.size → V.heap[w.heap.size + 1]? = some (.loop (rec .ready none)) →
          codeK P T asg an' (thenE (fun e1 V1 => roundX (w.heap.size + 1) (fun st pe => .loop (rec st pe)) V1 fun V2 =>
            codeK P T body (an'.drop (nloops asg)) (fun x _ w' => roundE (w.heap.size + 1) (fun st pe => .loop (rec st pe)) k x w') e1 V2) fun _ _ _ => False) (argE (upd e (some MS) undef) ps.toList args) V →
          yieldK P (w.heap.size + 1) args V k := by
        intro args V k hl hV hA
        have hyr := run_yield (P := P) (args := args.toArray) hV (by rw [hrec]; simpa using hl)
        rw [hrec] at hyr
        refine ⟨fn, _, asg, body, hyr, ?_⟩
        refine roundIn_of_wpIn (F := Fence.wide) trivial ?_
        have hzip : (ps.zip args.toArray).foldl (fun tmps (x : Nat × Value) => tmps.setIfInBounds x.1 x.2) a.tmps = (ps.toList.zip args).foldl (fun tmps (x : Nat × Value) => tmps.setIfInBounds x.1 x.2) a.tmps := by
          rw [← Array.foldl_toList]
          simp
        have hrep : Rep n { tmps := (ps.zip args.toArray).foldl (fun tmps (x : Nat × Value) => tmps.setIfInBounds x.1 x.2) a.tmps, defers := [] } (argE (upd e (some MS) undef) ps.toList args) := by
          rw [hzip]
          exact Rep.args _ _ _ _ (by simpa using hl.symm) hps' (Rep.out (a := { tmps := a.tmps, defers := [] }) ⟨hr.1, hr.2⟩ hn undef)
        have hmark : ∀ e1, AgreeR false W (argE (upd e (some MS) undef) ps.toList args) e1 → e1 MS = undef := fun e1 hag => by
          rw [hag MS hW (fun hh => by cases hh), argE_other _ _ _ _ (fun p hp => Nat.ne_of_lt (Nat.lt_of_lt_of_le (hps' p hp) hn)), upd_same]
        have h1 := iha (some (w.heap.size + 1)) 0 an' W hasg hW (fun hh => by rw [hra] at hh; cases hh) _ _ _ V hrep (by rw [argE_other _ _ _ _ (fun p hp => Nat.ne_of_lt (Nat.lt_of_lt_of_le (hps' p hp) hn)), upd_same]; rfl) hA
        refine wpIn_mono2 h1 ?_
        rintro ex a1 w1 ⟨e1, hr1, hd1, hag1, hq⟩
        rw [hra] at hag1
        cases ex with
        | normal =>
          obtain ⟨hq1, hq2⟩ := hq
          refine ⟨_, run_beginRound hq1 (by rw [hrec]), ?_⟩
          have hu : Upd w1 (w.heap.size + 1) (.loop (rec .busy none)) (w1.putObj (w.heap.size + 1) (.loop { rec .ready none with state := .busy })) := by
            have := upd_putObj (o := .loop (rec .busy none)) hq1
            rw [hrec] at this ⊢
            exact this
          have h2 := ihb (some (w.heap.size + 1)) 0 _ W hbody hW (fun hh => by rw [hrb] at hh; cases hh) _ e1 a1 _ hr1 hd1 (hq2 _ hu)
          refine wpIn_mono2 h2 ?_
          rintro ex a2 w2 ⟨e2, hr2, hd2, hag2, hq⟩
          cases ex with
          | normal =>
            obtain ⟨k1, k2⟩ := hq
            have he := run_endRound (P := P) none k1
            refine ⟨_, _, he, k2 _ ?_⟩
            have := upd_putObj (o := .loop (rec .ready none)) k1
            rw [hrec] at this ⊢
            exact this
          | ret =>
            obtain ⟨k1, k2⟩ := hq
            have he := run_endRound (P := P) (some .ret) k1
            refine ⟨_, _, he, k2 _ ?_⟩
            have := upd_putObj (o := .loop (rec .done (some .ret))) k1
            rw [hrec] at this ⊢
            exact this
          | exit id =>
            obtain ⟨k1, k2⟩ := hq
            have he := run_endRound (P := P) (some (.exit id)) k1
            refine ⟨_, _, he, k2 _ ?_⟩
            have := upd_putObj (o := .loop (rec .done (some (.exit id)))) k1
            rw [hrec] at this ⊢
            exact this
          | goto t => exact hq.elim
          | panic ch => exact hq.elim
          | outgrown => exact hq.elim
        | _ => exact hq.elim
      have hcall := h (fun st pe => .loop (rec st pe)) W1 hx1 (by rw [← hW1]; simp) hK1 hL1 fun V k => allArgs_of fun args hl => hy args V k (hl.trans hlive)
      have hevf : a.eval f = ev e f := hr.eval hf
      unfold iterK at hcall
      split at hcall
      · rename_i g first cap hg
        split at hcall
        · rename_i hTg
          have hb := hT.fn g hTg
          refine ⟨w.heap.size + 1, [{ target := .collected w.heap.size, args := #[] }], W1, { target := .fn (.func g) cap, args := first ++ #[.func (.yield (w.heap.size + 1)) #[] #[]] }, W1, g, first ++ #[.func (.yield (w.heap.size + 1)) #[] #[]] ++ cap, W1, ?_, ?_, ?_, ?_, ?_, ?_⟩
          · rw [← hW1, hrec]; exact run_enterLoop_outer _ _ _ _ _
          · simp only [resolve, hevf, hg]
            simp [go_sem]
          · intro f' _; trivial
          · exact congrFun (hb _) W1
          · intro hdd; rw [depth_fenceR] at hdd; cases hdd
          · have hargs : (first.toList ++ [Value.func (.yield (w.heap.size + 1)) #[] #[]] ++ cap.toList).toArray = first ++ #[Value.func (.yield (w.heap.size + 1)) #[] #[]] ++ cap := by simp
            rw [hargs] at hcall
            refine (callsIn_fenceR none (m - 1) hcall).mono ?_
            intro e' w3 hR
            have hm : defersOf (upd e (some MS) (pushMark w.heap.size (e MS)) MS) = [{ target := .collected w.heap.size, args := #[] }] ++ a.defers := by
              rw [upd_same, defersOf_push, hd]; rfl
            have hrep2 : Rep n { a with defers := [{ target := .collected w.heap.size, args := #[] }] ++ a.defers } (upd e (some MS) (pushMark w.heap.size (e MS))) := Rep.out (a := { a with defers := [{ target := .collected w.heap.size, args := #[] }] ++ a.defers }) ⟨hr.1, hr.2⟩ hn _
            have hag : AgreeR (hasRange (.rangeFunc f ps asg body)) W e (upd e (some MS) (pushMark w.heap.size (e MS))) := fun t _ ht => upd_other e (ht rfl) _
            have hfin : ∀ (x : Exit) w', Q x (upd e (some MS) (pushMark w.heap.size (e MS))) w' → postM n (hasRange (.rangeFunc f ps asg body)) W e Q x { a with defers := [{ target := .collected w.heap.size, args := #[] }] ++ a.defers } w' :=
              fun x w' hq => ⟨_, hrep2, hm.symm, hag, hq⟩
            have hend : ∀ (st : LoopState) (pe : Option Code), st ≠ .busy → w3.heap[w.heap.size + 1]? = some (.loop (rec st pe)) → (Instr.endLoop (w.heap.size + 1)).run P w3 = .ok pe (w3.putObj (w.heap.size + 1) (.loop (rec .exhausted pe))) := by
              intro st pe hst hw3
              have := run_endLoop (P := P) hw3 (by rw [hrec]; exact hst)
              rw [hrec] at this ⊢
              exact this
            cases e' with
            | returned v =>
              rcases hR with ⟨k1, k2⟩ | ⟨k1, k2⟩ | hE
              · exact ⟨none, _, hend _ _ (by simp) k1, hfin _ _ (k2 _ (upd_putObj k1))⟩
              · exact ⟨some .ret, _, hend _ _ (by simp) k1, wpIn_ret (hfin _ _ (k2 _ (upd_putObj k1)))⟩
              · have : ∀ ids, exitsE (w.heap.size + 1) (fun st pe => .loop (rec st pe)) (fun x w' => Q x (upd e (some MS) (pushMark w.heap.size (e MS))) w') w3 ids → rangePost (fenceR none) m P (w.heap.size + 1) (postM n (hasRange (.rangeFunc f ps asg body)) W e Q) { a with defers := [{ target := .collected w.heap.size, args := #[] }] ++ a.defers } (.returned v) w3 := by
                  intro ids
                  induction ids with
                  | nil => intro hh; exact hh.elim
                  | cons id r ih =>
                    intro hh
                    rcases hh with ⟨k1, k2⟩ | hh
                    · exact ⟨some (.exit id), _, hend _ _ (by simp) k1, wpIn_exit (hfin _ _ (k2 _ (upd_putObj k1)))⟩
                    · exact ih hh
                exact this _ hE
            | panicked c => exact hR.elim
            | outgrown => exact hR.elim
        · exact hcall.elim
      · exact hcall.elim
  | exit id => intro ro m an W _ _ _ Q e a w hr hd h; exact wpIn_exit ⟨e, hr, hd, AgreeR.of (Agree.refl _ _) _, h⟩
  | ret => intro ro m an W _ _ _ Q e a w hr hd h; exact wpIn_ret ⟨e, hr, hd, AgreeR.of (Agree.refl _ _) _, h⟩
  | _ => intro ro m an W hok; simp [okCode] at hok

/-! ### A function's contract -/
def resK (P : Program) (T : TT) : List ResultVar → Env → World → (List Value → Prop) → Prop
  | [], _, _, k => k []
  | .tmp t :: r, e, w, k => resK P T r e w fun vs => k (e t :: vs)
  | .cell x t :: r, e, w, k => match (T.ti t).sz with
    | some _ => adK (e x) fun a => ldK (T.ti t) w a fun p => resK P T r e w fun vs => k ((T.ti t).val p :: vs)
    | none => False
def packV : List Value → Value
  | [v] => v
  | vs => .tuple vs.toArray
/-- The marks are taken off. -/
def markX (D : Nat) (w : World) (k : World → Prop) : Prop := w.heap[D]? = some (.deferred (some [])) ∧ ∀ w', Upd w D (.deferred none) w' → k w'
def marksK : List Nat → World → (World → Prop) → Prop
  | [], w, k => k w
  | D :: r, w, k => markX D w fun w' => marksK r w' k
def bodyE (P : Program) (T : TT) (fn : Func) (K : Value → World → Prop) : Exit → Env → World → Prop
  | .normal, e, w | .ret, e, w => marksK (marksL (e MS)) w fun w' => resK P T fn.results.toList e w' fun vs => K (packV vs) w'
  | _, _, _ => False
def envOf (args : List Value) : Env := fun t => (args[t]?).getD undef
def resOne (tmps : Array Value) : ResultVar → Sem Value
  | .tmp t => pure (tmps.getD t undef)
  | .cell x t => do loadVar t (← asAddr (tmps.getD x undef))
def okRes (n : Nat) : ResultVar → Bool
  | .tmp t => Nat.blt t n
  | .cell t _ => Nat.blt t n
def okFn (T : TT) (fn : Func) (an : List LoopAnn) (W : List Nat) (nargs : Nat) : Bool :=
  (match fn.body with
    | some c => okCode T fn.ntmps c an W
    | none => false) && fn.results.toList.all (okRes fn.ntmps) && Nat.ble nargs fn.ntmps && (Nat.ble fn.ntmps MS && !memB W MS)
def bodyOf (fn : Func) : Code := fn.body.getD .skip

theorem run_mapM_resK {P : Program} {T : TT} (hT : TOk P T) {n : Nat} {a : Act} {e : Env} (hr : Rep n a e) {w : World} : ∀ (l : List ResultVar) (_ : l.all (okRes n) = true) (k : List Value → Prop),
    resK P T l e w k → ∃ vs, (l.mapM (resOne a.tmps)).run P w = .ok vs w ∧ k vs := by
  intro l
  induction l with
  | nil => intro _ k h; exact ⟨[], by simp, h⟩
  | cons x l ih =>
    intro hok k h
    simp only [List.all_cons, Bool.and_eq_true] at hok
    obtain ⟨u, vs, hu, h1, h2⟩ : ∃ u vs, (resOne a.tmps x).run P w = .ok u w ∧ (l.mapM (resOne a.tmps)).run P w = .ok vs w ∧ k (u :: vs) := by
      cases x with
      | tmp t =>
        have ht : t < n := by simpa [okRes, Nat.blt_eq] using hok.1
        obtain ⟨vs, h1, h2⟩ := ih hok.2 _ h
        exact ⟨e t, vs, by simp [resOne, Array.getD_eq_getD_getElem?, hr.2 t ht], h1, h2⟩
      | cell y t =>
        have ht : y < n := by simpa [okRes, Nat.blt_eq] using hok.1
        simp only [resK] at h
        split at h
        · rename_i sz hsz
          unfold adK at h
          split at h
          · rename_i ad had
            obtain ⟨p, hp, hk⟩ := h
            obtain ⟨vs, h1, h2⟩ := ih hok.2 _ hk
            have : a.tmps.getD y undef = .pointer (some ad) := by rw [← had]; simp [Array.getD_eq_getD_getElem?, hr.2 y ht]
            exact ⟨_, vs, by simp only [resOne, this, asAddr, Sem.run_bind, Sem.run_pure, Result.andThen]; exact run_loadVar (hT.ti t).toLdOk hsz hp, h1, h2⟩
          · exact h.elim
        · exact h.elim
    refine ⟨u :: vs, ?_, h2⟩
    simp only [List.mapM_cons, Sem.run_bind, hu, Result.andThen, h1, Sem.run_pure]

theorem run_results {P : Program} {T : TT} (hT : TOk P T) {fn : Func} {a : Act} {e : Env} (hr : Rep fn.ntmps a e) {w : World} {K : Value → World → Prop}
    (hok : fn.results.toList.all (okRes fn.ntmps) = true)
    (h : resK P T fn.results.toList e w fun vs => K (packV vs) w) : ∃ v, (results fn a.tmps).run P w = .ok v w ∧ K v w := by
  obtain ⟨vs, h1, h2⟩ := run_mapM_resK hT hr fn.results.toList hok _ h
  refine ⟨packV vs, ?_, h2⟩
  have hres : results fn a.tmps = (do let vs ← fn.results.mapM (resOne a.tmps); pure (if h : vs.size = 1 then vs[0] else .tuple vs)) := by
    unfold results
    congr 1
  rw [hres, Array.mapM_eq_mapM_toList]
  simp only [Sem.run_bind, Sem.run_map, Result.andThen, h1, Sem.run_pure]
  congr 1
  match vs with
  | [] => rfl
  | [v] => rfl
  | v :: u :: r => simp [packV]

theorem leaves_marks {P : Program} {T : TT} (hT : TOk P T) {fn : Func} {a : Act} {e : Env} (hr : Rep fn.ntmps a e) {K : Value → World → Prop} (hok : fn.results.toList.all (okRes fn.ntmps) = true) : ∀ (l : List Nat) (w : World),
    marksK l w (fun w' => resK P T fn.results.toList e w' fun vs => K (packV vs) w') → LeavesInM Fence.wide 0 P fn a.tmps (Ret K) (l.map fun D => { target := .collected D, args := #[] }) .returning w
  | [], w, h => by
    obtain ⟨v, hv, hk⟩ := run_results hT hr hok h
    exact ⟨v, hv, hk⟩
  | D :: r, w, h => by
    refine ⟨by simp, .inl ⟨D, _, rfl, run_takeDeferred h.1, leaves_marks hT hr hok r _ (h.2 _ (upd_putObj h.1))⟩⟩
theorem enter {P : Program} {T : TT} (hT : TOk P T) {f : Nat} {fn : Func} (an : List LoopAnn) (W : List Nat) {args : List Value} {w : World} {K : Value → World → Prop} (hf : P.funcs[f]? = some fn)
    (hok : okFn T fn an W args.length = true) (hlen : args.length ≤ MS) (h : codeK P T (bodyOf fn) an (bodyE P T fn K) (envOf args) w) : Calls P f args.toArray w (Ret K) := by
  simp only [okFn, Bool.and_eq_true, Bool.not_eq_true'] at hok
  obtain ⟨⟨⟨h1, h2⟩, h3⟩, h4, h5⟩ := hok
  have h4 := Nat.le_of_ble_eq_true h4
  cases hb : fn.body with
  | none => simp [hb] at h1
  | some c =>
    simp only [hb] at h1
    have hc : bodyOf fn = c := by simp [bodyOf, hb]
    rw [hc] at h
    refine callsIn_wide.1 (callsIn_of_wp_marks (n := 0) hf hb trivial ?_ rfl)
    have hn : args.length ≤ fn.ntmps := Nat.le_of_ble_eq_true h3
    have hrep : Rep fn.ntmps { tmps := args.toArray ++ Array.replicate (fn.ntmps - args.toArray.size) undef, defers := [] } (envOf args) := by
      refine ⟨by simp; omega, fun t ht => ?_⟩
      by_cases hl : t < args.length
      · simp [envOf, Array.getElem?_append, hl]
      · simp only [envOf, Array.getElem?_append, List.size_toArray, hl, if_false]
        rw [List.getElem?_eq_none (by omega), Array.getElem?_replicate, if_pos (by omega)]
        rfl
    have hm0 : envOf args MS = undef := by simp [envOf, List.getElem?_eq_none hlen]
    refine wpIn_mono (codeK_sound hT h4 c none 0 an W h1 h5 (fun _ => rfl) _ _ _ w hrep (by rw [hm0]; rfl) h) ?_
    rintro ex a' w' ⟨e', hr', hd', _, hq⟩
    cases ex with
    | normal =>
      show LeavesInM _ _ _ _ _ _ a'.defers _ _
      rw [hd']
      exact leaves_marks hT hr' h2 _ _ hq
    | ret =>
      show LeavesInM _ _ _ _ _ _ a'.defers _ _
      rw [hd']
      exact leaves_marks hT hr' h2 _ _ hq
    | _ => exact hq.elim

end Go.Wf
