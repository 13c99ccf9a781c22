/- A part of the proof: lemmas; nothing is claimed here. -/
import Derived.Test.YtkeecncgfhgnpaaWNestW
set_option linter.all false
namespace Go.Wf
open Go Go.RowKit
variable {P : Program} {T : TT}

/-! ### Loops: which slots live on, of which types -/
structure LoopAnn where
  live : List (Nat × Nat)
  wr : List Nat
  ins : List Nat := []
def TyL (T : TT) : List (Nat × Nat) → Type
  | [] => Unit
  | (_, t) :: l => (T.ti t).ty × TyL T l
def envL (T : TT) : (L : List (Nat × Nat)) → TyL T L → Env → Env
  | [], _, d => d
  | (s, t) :: l, x, d => fun n => cond (Nat.beq n s) ((T.ti t).val x.1) (envL T l x.2 d n)
def projL (T : TT) : (L : List (Nat × Nat)) → Env → (TyL T L → Prop) → Prop
  | [], _, k => k ()
  | (s, t) :: l, e, k => match (T.ti t).of (e s) with
    | some x => projL T l e fun xs => k (x, xs)
    | none => False
def mergeE (W : List Nat) (d e : Env) : Env := fun n => cond (memB W n) (d n) (e n)

def thenE (next : Env → World → Prop) (Q : Exit → Env → World → Prop) : Exit → Env → World → Prop
  | .normal, e, w => next e w
  | x, e, w => Q x e w
def blockE (id : Nat) (Q : Exit → Env → World → Prop) : Exit → Env → World → Prop
  | .exit id', e, w => cond (Nat.beq id' id) (Q .normal e w) (Q (.exit id') e w)
  | x, e, w => Q x e w

def nloops : Code → Nat
  | .seq a b => nloops a + nloops b
  | .cond _ a b => nloops a + nloops b
  | .block _ c => nloops c
  | .loop c => nloops c + 1
  | .region _ _ d => cond d 1 0
  | .scope c => nloops c
  | _ => 0

def codeK (P : Program) (T : TT) : Code → List LoopAnn → (Exit → Env → World → Prop) → Env → World → Prop
  | .skip, _, Q, e, w => Q .normal e w
  | .region _ ops d, an, Q, e, w => match d with
    | false => opsL P T ops (Q .normal) ops.toList e w
    | true => match an with
      | [] => False
      | A :: _ => nestR P T ops A.wr A.ins e w (Q .normal)
  | .seq a b, an, Q, e, w => codeK P T a an (thenE (codeK P T b (an.drop (nloops a)) Q) Q) e w
  | .cond c a b, an, Q, e, w => match ev e c with
    | .bool x => ifK x (codeK P T a an Q e w) (codeK P T b (an.drop (nloops a)) Q e w)
    | _ => False
  | .block id c, an, Q, e, w => codeK P T c an (blockE id Q) e w
  | .loop c, an, Q, e, w => match an with
    | [] => False
    | A :: an' => ∃ (I : TyL T A.live → World → Prop) (μ : TyL T A.live → World → Nat), projL T A.live e (fun x => I x w) ∧
        ∀ (x : TyL T A.live) (w' : World), I x w' → ∀ d : Env,
          codeK P T c an' (thenE (fun e' w'' => projL T A.live e' (fun x' => I x' w'' ∧ μ x' w'' < μ x w')) Q) (mergeE A.wr (envL T A.live x d) e) w'
  | .exit id, _, Q, e, w => Q (.exit id) e w
  | .ret, _, Q, e, w => Q .ret e w
  | _, _, _, _, _ => False

/-- All temporaries lie below n; what is written lies in W (within a loop: in the loop's own list). -/
def okCode (T : TT) (n : Nat) : Code → List LoopAnn → List Nat → Bool
  | .skip, _, _ => true
  | .region _ ops d, an, W => ops.toList.all (okOp n W ops) && (match d with
    | false => true
    | true => match an with
      | [] => false
      | A :: _ => nestChk T ops A.wr A.ins)
  | .seq a b, an, W => okCode T n a an W && okCode T n b (an.drop (nloops a)) W
  | .cond c a b, an, W => okOperand n c && okCode T n a an W && okCode T n b (an.drop (nloops a)) W
  | .block _ c, an, W => okCode T n c an W
  | .loop c, an, W => match an with
    | [] => false
    | A :: an' => (A.live.all fun x => Nat.blt x.1 n && memB A.wr x.1) && A.wr.all (fun t => memB W t) && okCode T n c an' A.wr
  | .exit _, _, _ => true
  | .ret, _, _ => true
  | _, _, _ => false

def projO (T : TT) : (L : List (Nat × Nat)) → Env → Option (TyL T L)
  | [], _ => some ()
  | (s, t) :: l, e => match (T.ti t).of (e s), projO T l e with
    | some x, some xs => some (x, xs)
    | _, _ => none
theorem projL_iff : ∀ (L : List (Nat × Nat)) (e : Env) (k : TyL T L → Prop), projL T L e k ↔ ∃ x, projO T L e = some x ∧ k x
  | [], e, k => ⟨fun h => ⟨(), rfl, h⟩, fun ⟨_, _, hk⟩ => hk⟩
  | (s, t) :: l, e, k => by
    unfold projL projO
    cases h : (T.ti t).of (e s) with
    | none => simp
    | some x =>
      simp only
      rw [projL_iff l]
      cases h2 : projO T l e with
      | none => simp
      | some xs => 
        constructor
        · rintro ⟨y, hy, hk⟩
          injection hy with hy
          subst hy
          exact ⟨(x, xs), rfl, hk⟩
        · rintro ⟨y, hy, hk⟩
          have hy' : (x, xs) = y := Option.some.inj hy
          subst hy'
          exact ⟨xs, rfl, hk⟩
theorem projO_congr : ∀ (L : List (Nat × Nat)) (e e' : Env), (∀ x ∈ L, e x.1 = e' x.1) → projO T L e = projO T L e'
  | [], _, _, _ => rfl
  | (s, t) :: l, e, e', h => by
    unfold projO
    rw [h (s, t) (by simp), projO_congr l e e' (fun x hx => h x (by simp [hx]))]
/-- What was projected out stands in the slots. -/
theorem envL_of_projO (hT : TOk P T) : ∀ (L : List (Nat × Nat)) (e : Env) (x : TyL T L), projO T L e = some x → envL T L x e = e
  | [], _, _, _ => rfl
  | (s, t) :: l, e, x, h => by
    unfold projO at h
    cases h1 : (T.ti t).of (e s) with
    | none => simp [h1] at h
    | some y =>
      cases h2 : projO T l e with
      | none => simp [h1, h2] at h
      | some ys =>
        simp only [h1, h2] at h
        have h' : (y, ys) = x := Option.some.inj h
        subst h'
        funext n
        simp only [envL]
        rw [envL_of_projO hT l e ys h2]
        by_cases hn : n = s
        · subst hn
          simp [(hT.ti t).of _ _ h1]
        · have : Nat.beq n s = false := by
            cases hb : Nat.beq n s with
            | false => rfl
            | true => exact absurd (Nat.eq_of_beq_eq_true hb) hn
          simp [this]
theorem mergeE_agree {W : List Nat} {e e' : Env} (h : Agree W e e') : mergeE W e' e = e' := by
  funext n
  unfold mergeE
  cases hb : memB W n with
  | true => rfl
  | false => exact (h n hb).symm
theorem Agree.mono {W W' : List Nat} {e e' : Env} (h : Agree W e e') (hs : ∀ t ∈ W, memB W' t = true) : Agree W' e e' := fun t ht => h t (by
  cases hb : memB W t with
  | false => rfl
  | true =>
    have := hs t ((memB_iff W t).1 hb)
    rw [this] at ht; cases ht)

theorem codeK_sound (hT : TOk P T) (ro : Option Nat) (m : Nat) {n : Nat} : ∀ (c : Code) (an : List LoopAnn) (W : List Nat) (_ : okCode T n c an W = true) (Q : Exit → Env → World → Prop) (e : Env) (a : Act) (w : World) (D : List Deferred),
    Rep n a e → a.defers = D → codeK P T c an Q e w → c.wpIn (fenceR ro) m P (postA n D W e Q) a w := by
  intro c
  induction c with
  | skip => intro an W _ Q e a w D hr hd h; exact wpIn_skip ⟨e, hr, hd, Agree.refl _ _, h⟩
  | region id ops d =>
    intro an W hok Q e a w D hr hd h
    simp only [codeK] at h
    simp only [okCode, Bool.and_eq_true] at hok
    obtain ⟨hok, hdr⟩ := hok
    cases d with
    | false =>
      refine wpIn_region ?_
      exact opsL_sound hT ro m hok _ e a w hr hd (Agree.refl _ _) (by rw [filterMap_range]; exact h)
    | true =>
      cases an with
      | nil => cases hdr
      | cons A an' =>
        exact wpIn_region_any hT.mixed (nest_sound hT ro m hdr hok hr hd h)
  | seq x y ihx ihy =>
    intro an W hok Q e a w D hr hd h
    simp only [okCode, Bool.and_eq_true] at hok
    simp only [codeK] at h
    refine wpIn_seq (wpIn_mono (ihx an W hok.1 _ e a w D hr hd h) ?_)
    rintro ex a1 w1 ⟨e1, hr1, hd1, hag1, hq⟩
    cases ex with
    | normal =>
      refine wpIn_mono (ihy _ W hok.2 Q e1 a1 w1 D hr1 hd1 hq) ?_
      rintro ex2 a2 w2 ⟨e2, hr2, hd2, hag2, hq2⟩
      exact ⟨e2, hr2, hd2, hag1.trans hag2, hq2⟩
    | _ => exact ⟨e1, hr1, hd1, hag1, hq⟩
  | cond c x y ihx ihy =>
    intro an W hok Q e a w D hr hd h
    simp only [okCode, Bool.and_eq_true] at hok
    simp only [codeK] at h
    split at h
    · rename_i b hb
      have hev : a.eval c = .bool b := by rw [hr.eval hok.1.1]; exact hb
      cases b with
      | true => exact wpIn_cond_true hev (ihx an W hok.1.2 Q e a w D hr hd h)
      | false => exact wpIn_cond_false hev (ihy _ W hok.2 Q e a w D hr hd h)
    · exact h.elim
  | block id c ih =>
    intro an W hok Q e a w D hr hd h
    simp only [okCode] at hok
    simp only [codeK] at h
    refine wpIn_block (wpIn_mono (ih an W hok _ e a w D hr hd h) ?_)
    rintro ex a1 w1 ⟨e1, hr1, hd1, hag1, hq⟩
    cases ex with
    | exit id' =>
      simp only [Exit.inBlock]
      simp only [blockE] at hq
      by_cases hid : id' = id
      · subst hid
        simp only [Nat.beq_refl, cond_true, if_true] at hq ⊢
        exact ⟨e1, hr1, hd1, hag1, hq⟩
      · have : Nat.beq id' id = false := by
          cases hb : Nat.beq id' id with
          | false => rfl
          | true => exact absurd (Nat.eq_of_beq_eq_true hb) hid
        rw [if_neg hid]
        rw [this] at hq
        exact ⟨e1, hr1, hd1, hag1, hq⟩
    | _ => exact ⟨e1, hr1, hd1, hag1, hq⟩
  | loop c ih =>
    intro an W hok Q e a w D hr hd h
    cases an with
    | nil => simp [okCode] at hok
    | cons A an' =>
      simp only [okCode, Bool.and_eq_true] at hok
      obtain ⟨⟨hlive, hwr⟩, hbody⟩ := hok
      simp only [codeK] at h
      obtain ⟨I, μ, h0, hround⟩ := h
      have hwr' : ∀ t ∈ A.wr, memB W t = true := fun t ht => List.all_eq_true.1 hwr t ht
      let ea : Act → Env := fun a => fun t => (a.tmps[t]?).getD undef
      have hea : ∀ {a' : Act} {e' : Env}, Rep n a' e' → projO T A.live (ea a') = projO T A.live e' := fun hr' => projO_congr _ _ _ fun x hx => by
        have := List.all_eq_true.1 hlive x hx
        simp only [Bool.and_eq_true, Nat.blt_eq] at this
        simp [ea, hr'.2 x.1 this.1]
      refine wpIn_loop (fun a' w' => ∃ e', Rep n a' e' ∧ a'.defers = D ∧ Agree A.wr e e' ∧ projL T A.live e' (fun x => I x w'))
        (fun a' w' => match projO T A.live (ea a') with | some x => μ x w' | none => 0) ⟨e, hr, hd, Agree.refl _ _, h0⟩ ?_
      rintro a1 w1 ⟨e1, hr1, hd1, hag1, hp1⟩
      obtain ⟨x, hx, hI⟩ := (projL_iff _ _ _).1 hp1
      have hmerge : mergeE A.wr (envL T A.live x e1) e = e1 := by
        rw [envL_of_projO hT _ _ _ hx]; exact mergeE_agree hag1
      have hk := hround x w1 hI e1
      rw [hmerge] at hk
      refine wpIn_mono (ih an' A.wr hbody _ e1 a1 w1 D hr1 hd1 hk) ?_
      rintro ex a2 w2 ⟨e2, hr2, hd2, hag2, hq⟩
      cases ex with
      | normal =>
        simp only [thenE] at hq
        obtain ⟨x', hx', hI', hμ⟩ := (projL_iff _ _ _).1 hq
        refine ⟨⟨e2, hr2, hd2, hag1.trans hag2, (projL_iff _ _ _).2 ⟨x', hx', hI'⟩⟩, ?_⟩
        simp only [hea hr1, hea hr2, hx, hx']
        exact hμ
      | _ => exact ⟨e2, hr2, hd2, (hag1.trans hag2).mono hwr', hq⟩
  | exit id => intro an W _ Q e a w D hr hd h; exact wpIn_exit ⟨e, hr, hd, Agree.refl _ _, h⟩
  | ret => intro an W _ Q e a w D hr hd h; exact wpIn_ret ⟨e, hr, hd, Agree.refl _ _, h⟩
  | _ => intro an W hok; simp [okCode] at hok

/-! ### A function's contract -/
def resK (P : Program) (T : TT) : List ResultVar → Env → World → (List Value → Prop) → Prop
  | [], _, _, k => k []
  | .tmp t :: r, e, w, k => resK P T r e w fun vs => k (e t :: vs)
  | .cell x t :: r, e, w, k => match (T.ti t).sz with
    | some _ => adK (e x) fun a => ldK (T.ti t) w a fun p => resK P T r e w fun vs => k ((T.ti t).val p :: vs)
    | none => False
def packV : List Value → Value
  | [v] => v
  | vs => .tuple vs.toArray
def bodyE (P : Program) (T : TT) (fn : Func) (K : Value → World → Prop) : Exit → Env → World → Prop
  | .normal, e, w | .ret, e, w => resK P T fn.results.toList e w fun vs => K (packV vs) w
  | _, _, _ => False
def envOf (args : List Value) : Env := fun t => (args[t]?).getD undef
def resOne (tmps : Array Value) : ResultVar → Sem Value
  | .tmp t => pure (tmps.getD t undef)
  | .cell x t => do loadVar t (← asAddr (tmps.getD x undef))
def okRes (n : Nat) : ResultVar → Bool
  | .tmp t => Nat.blt t n
  | .cell t _ => Nat.blt t n
def okFn (T : TT) (fn : Func) (an : List LoopAnn) (W : List Nat) (nargs : Nat) : Bool :=
  (match fn.body with
    | some c => okCode T fn.ntmps c an W
    | none => false) && fn.results.toList.all (okRes fn.ntmps) && Nat.ble nargs fn.ntmps
def bodyOf (fn : Func) : Code := fn.body.getD .skip

theorem run_mapM_resK {P : Program} {T : TT} (hT : TOk P T) {n : Nat} {a : Act} {e : Env} (hr : Rep n a e) {w : World} : ∀ (l : List ResultVar) (_ : l.all (okRes n) = true) (k : List Value → Prop),
    resK P T l e w k → ∃ vs, (l.mapM (resOne a.tmps)).run P w = .ok vs w ∧ k vs := by
  intro l
  induction l with
  | nil => intro _ k h; exact ⟨[], by simp, h⟩
  | cons x l ih =>
    intro hok k h
    simp only [List.all_cons, Bool.and_eq_true] at hok
    obtain ⟨u, vs, hu, h1, h2⟩ : ∃ u vs, (resOne a.tmps x).run P w = .ok u w ∧ (l.mapM (resOne a.tmps)).run P w = .ok vs w ∧ k (u :: vs) := by
      cases x with
      | tmp t =>
        have ht : t < n := by simpa [okRes, Nat.blt_eq] using hok.1
        obtain ⟨vs, h1, h2⟩ := ih hok.2 _ h
        exact ⟨e t, vs, by simp [resOne, Array.getD_eq_getD_getElem?, hr.2 t ht], h1, h2⟩
      | cell y t =>
        have ht : y < n := by simpa [okRes, Nat.blt_eq] using hok.1
        simp only [resK] at h
        split at h
        · rename_i sz hsz
          unfold adK at h
          split at h
          · rename_i ad had
            obtain ⟨p, hp, hk⟩ := h
            obtain ⟨vs, h1, h2⟩ := ih hok.2 _ hk
            have : a.tmps.getD y undef = .pointer (some ad) := by rw [← had]; simp [Array.getD_eq_getD_getElem?, hr.2 y ht]
            exact ⟨_, vs, by simp only [resOne, this, asAddr, Sem.run_bind, Sem.run_pure, Result.andThen]; exact run_loadVar (hT.ti t).toLdOk hsz hp, h1, h2⟩
          · exact h.elim
        · exact h.elim
    refine ⟨u :: vs, ?_, h2⟩
    simp only [List.mapM_cons, Sem.run_bind, hu, Result.andThen, h1, Sem.run_pure]

theorem run_results {P : Program} {T : TT} (hT : TOk P T) {fn : Func} {a : Act} {e : Env} (hr : Rep fn.ntmps a e) {w : World} {K : Value → World → Prop}
    (hok : fn.results.toList.all (okRes fn.ntmps) = true)
    (h : resK P T fn.results.toList e w fun vs => K (packV vs) w) : ∃ v, (results fn a.tmps).run P w = .ok v w ∧ K v w := by
  obtain ⟨vs, h1, h2⟩ := run_mapM_resK hT hr fn.results.toList hok _ h
  refine ⟨packV vs, ?_, h2⟩
  have hres : results fn a.tmps = (do let vs ← fn.results.mapM (resOne a.tmps); pure (if h : vs.size = 1 then vs[0] else .tuple vs)) := by
    unfold results
    congr 1
  rw [hres, Array.mapM_eq_mapM_toList]
  simp only [Sem.run_bind, Sem.run_map, Result.andThen, h1, Sem.run_pure]
  congr 1
  match vs with
  | [] => rfl
  | [v] => rfl
  | v :: u :: r => simp [packV]

theorem enter {P : Program} {T : TT} (hT : TOk P T) {f : Nat} {fn : Func} (an : List LoopAnn) (W : List Nat) {args : List Value} {w : World} {K : Value → World → Prop} (hf : P.funcs[f]? = some fn)
    (hok : okFn T fn an W args.length = true) (h : codeK P T (bodyOf fn) an (bodyE P T fn K) (envOf args) w) : Calls P f args.toArray w (Ret K) := by
  simp only [okFn, Bool.and_eq_true] at hok
  obtain ⟨⟨h1, h2⟩, h3⟩ := hok
  cases hb : fn.body with
  | none => simp [hb] at h1
  | some c =>
    simp only [hb] at h1
    have hc : bodyOf fn = c := by simp [bodyOf, hb]
    rw [hc] at h
    refine callsIn_wide.1 (callsIn_of_wp (n := 0) hf hb trivial ?_ rfl)
    have hn : args.length ≤ fn.ntmps := Nat.le_of_ble_eq_true h3
    have hrep : Rep fn.ntmps { tmps := args.toArray ++ Array.replicate (fn.ntmps - args.toArray.size) undef, defers := [] } (envOf args) := by
      refine ⟨by simp; omega, fun t ht => ?_⟩
      by_cases hl : t < args.length
      · simp [envOf, Array.getElem?_append, hl]
      · simp only [envOf, Array.getElem?_append, List.size_toArray, hl, if_false]
        rw [List.getElem?_eq_none (by omega), Array.getElem?_replicate, if_pos (by omega)]
        rfl
    refine wpIn_mono (codeK_sound hT none 0 c an W h1 _ _ _ w [] hrep rfl h) ?_
    rintro ex a' w' ⟨e', hr', hd', _, hq⟩
    cases ex with
    | normal =>
      obtain ⟨v, hv, hk⟩ := run_results hT hr' h2 hq
      exact ⟨hd', v, hv, hk⟩
    | ret =>
      obtain ⟨v, hv, hk⟩ := run_results hT hr' h2 hq
      exact ⟨hd', v, hv, hk⟩
    | _ => exact hq.elim

end Go.Wf
