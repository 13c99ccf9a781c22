/- A part of the proof: the walks of this program's functions, by a program of the prover's own, each checked by the kernel. -/
import Derived.Test.YtkeecncgfhgnpaaWCode
set_option linter.all false
namespace Go.Wf
open Go Go.RowKit
variable {P : Program} {T : TT}

theorem callK_mono {I : TI} {f : Value} {args : List Value} {w : World} {K K' : I.ty → World → Prop} (h : callK P T I f args w K) (hk : ∀ r w', K r w' → K' r w') : callK P T I f args w K' := callK_mono' hk h

theorem enterC (hT : TOk P T) (an : List LoopAnn) (W : List Nat) {f : Nat} {fn : Func} {args : List Value} {w : World} {I : TI} {K : I.ty → World → Prop} (hf : P.funcs[f]? = some fn)
    (hg : T.fn f = true) (hok : okFn T fn an W args.length = true) (h : codeK P T (bodyOf fn) an (bodyE P T fn fun v w => ofK I v fun p => K p w) (envOf args) w) :
    callK P T I (.func (.func f) #[] #[]) args w K := by
  unfold callK
  simp only [hg]
  have hlen : args.length ≤ MS := by
    simp only [okFn, Bool.and_eq_true] at hok
    exact Nat.le_trans (Nat.le_of_ble_eq_true hok.1.2) (Nat.le_of_ble_eq_true hok.2.1)
  have := enter hT an W hf hok hlen h
  simpa using this

/-! ### Tables -/
def lookT : List (Nat × TI) → Nat → TI
  | [], _ => default
  | (n, I) :: l, t => cond (Nat.beq t n) I (lookT l t)
def allT (P : Program) : List (Nat × TI) → Prop
  | [] => True
  | (n, I) :: l => TOk1 P n I ∧ allT P l
def allB (P : Program) : List Nat → Prop
  | [] => True
  | n :: l => hasBody P n ∧ allB P l
theorem tok_default (t : Nat) : TOk1 P t (default : TI) where
  of := fun _ p _ => (show Empty from p).elim
  load := fun _ _ p => (show Empty from p).elim
  zero := fun _ h => by cases h
  offs := fun _ _ h => by cases h
  sz := fun _ h => by cases h
  esz := fun _ h => by cases h
  nk1 := fun h => by cases h
  nk2 := fun h => by cases h
  nk3 := fun h => by cases h
  nk4 := fun h => by cases h
  nk6 := fun h => by cases h
  nk7 := fun h => by cases h
  ik := fun _ h => by cases h
  conc := fun h => by cases h
  places := fun _ h => by cases h
theorem allT_look {l : List (Nat × TI)} (h : allT P l) (t : Nat) : TOk1 P t (lookT l t) := by
  induction l with
  | nil => exact tok_default t
  | cons x l ih =>
    obtain ⟨n, I⟩ := x
    unfold lookT
    cases hb : Nat.beq t n with
    | true =>
      have : t = n := Nat.eq_of_beq_eq_true hb
      subst this
      exact h.1
    | false => exact ih h.2
theorem allB_mem {l : List Nat} (h : allB P l) {f : Nat} (hf : memB l f = true) : hasBody P f := by
  induction l with
  | nil => cases hf
  | cons x l ih =>
    unfold memB at hf
    cases hb : Nat.beq f x with
    | true =>
      have : f = x := Nat.eq_of_beq_eq_true hb
      subst this
      exact h.1
    | false => rw [hb] at hf; exact ih h.2 hf
/-- The table of a program. -/
def mkTT (l : List (Nat × TI)) (b : List Nat) : TT := ⟨lookT l, memB b⟩
theorem mkTT_ok {l : List (Nat × TI)} {b : List Nat} (hm : P.follows .mixedOrders = true) (h1 : allT P l) (h2 : allB P b) : TOk P (mkTT l b) := ⟨hm, allT_look h1, fun _ hf => allB_mem h2 hf⟩

/-- An address of the walk's own. -/
def tiA : TI := { ty := Addr, val := fun a => .pointer (some a), of := fun v => match v with | .pointer (some a) => some a | _ => none }
theorem tokA (t : Nat) : TOk1 P t tiA where
  of := fun v p h => by
    unfold tiA at h
    dsimp only at h
    split at h
    · cases h; rfl
    · cases h
  load := fun _ h => by cases h
  zero := fun _ h => by cases h
  offs := fun _ _ h => by cases h
  sz := fun _ h => by cases h
  esz := fun _ h => by cases h
  nk1 := fun h => by cases h
  nk2 := fun h => by cases h
  nk3 := fun h => by cases h
  nk4 := fun h => by cases h
  nk6 := fun h => by cases h
  nk7 := fun h => by cases h
  ik := fun _ h => by cases h
  conc := fun h => by cases h
  places := fun _ h => by cases h

/-! ### Rows of the table, looked through by a Bool -/
def sizeB (P : Program) (t : Nat) : Option Nat := (P.info? t).map (·.size)
def isAggB (P : Program) (t : Nat) : Bool := match P.underlying t with
  | some (.struct _) => true
  | some (.array _ _) => true
  | _ => false
def nkB (P : Program) (t : Nat) (nk : Nat) : Bool := match nk, P.underlying t with
  | 0, _ => true
  | 1, some (.pointer _) => true
  | 2, some (.slice _) => true
  | 3, some (.map _ _) => true
  | 4, some (.interface _) => true
  | 6, some .bool => true
  | 7, some .string => true
  | _, _ => false
def chkT (P : Program) (t : Nat) (I : TI) : Bool :=
  ((P.info? t).isSome && (P.underlying t).isSome) &&
  ((match I.sz with
    | some n => sizeB P t == some n
    | none => true) &&
  ((match I.esz with
    | some z => (match P.underlying t, I.alen with
      | some (.slice el), none => sizeB P el == some z && el == I.etid && (I.ezero.map (·.length)) == some z
      | some (.array n el), some m => n == m && sizeB P el == some z
      | _, _ => false)
    | none => true) &&
  (nkB P t I.nk &&
  ((match I.ik with
    | some k => (match P.underlying t with
      | some (.int k') => decide (k = k')
      | _ => false)
    | none => true) &&
  ((match I.conc, P.underlying t with
    | true, some (.interface _) => false
    | _, _ => true) &&
  (match P.underlying t with
    | some (.struct fs) => fs.toList.all (fun f => (sizeB P f.type).isSome) && (I.offs == fs.toList.map (fun f => if sizeB P f.type == some 0 then none else some f.offset)) &&
      (match I.places with
        | none => true
        | some pl => pl == fs.toList.map fun f => (f.offset, (sizeB P f.type).getD 0))
    | some (.array n el) => I.offs.isEmpty && ((sizeB P el).isSome && (match I.places with
        | none => true
        | some pl => pl == (List.range n).map fun i => (i * (sizeB P el).getD 0, (sizeB P el).getD 0)))
    | _ => I.offs.isEmpty && I.places.isNone))))))

theorem run_sizeOf' {t n : Nat} (h : sizeB P t = some n) : (sizeOf t).run P = Result.ok n := by
  funext w
  unfold sizeB at h
  cases hi : P.info? t with
  | none => simp [hi] at h
  | some i =>
    simp only [hi, Option.map_some, Option.some.injEq] at h
    simp [sizeOf, typeInfo, program, Sem.run_bind, Sem.run, hi, Result.andThen, h]
theorem run_underlying' {t : Nat} {d : TypeDesc} (h : P.underlying t = some d) : (underlying t).run P = Result.ok d := by
  funext w
  simp [underlying, program, Sem.run_bind, Sem.run, h, Result.andThen]
theorem run_zero' {t : Nat} {v : Value} (h : (P.info? t).bind (·.zero) = some v) : (zeroValue t).run P = Result.ok v := by
  funext w
  cases hi : P.info? t with
  | none => simp [hi] at h
  | some i =>
    simp only [hi, Option.bind_some] at h
    simp [zeroValue, typeInfo, program, Sem.run_bind, Sem.run, hi, Result.andThen, h]
theorem run_isAgg' {t : Nat} {d : TypeDesc} (h : P.underlying t = some d) : (isAgg t).run P = Result.ok (isAggB P t) := by
  funext w
  simp only [isAgg, Sem.run_bind, run_underlying' h, Result.andThen, isAggB, h]
  cases d <;> rfl

theorem tokOf {t : Nat} {I : TI} (hc : chkT P t I = true) (hof : ∀ v p, I.of v = some p → v = I.val p)
    (hld : ∀ m, I.sz = some m → ∀ p, ((I.ifc = false ∧ isAggB P t = true) ∧ ∃ cs : Array Value, I.val p = .agg cs ∧ sizeB P t = some cs.size) ∨ (isAggB P t = false ∧ cellsT I (I.val p) = [I.val p]))
    (hz : I.zero = none ∨ ∃ v, (P.info? t).bind (·.zero) = some v ∧ I.zero = some v.cells)
    (he : I.ezero = none ∨ ∃ v, (P.info? I.etid).bind (·.zero) = some v ∧ I.ezero = some v.cells.toList) : TOk1 P t I := by
  unfold chkT at hc
  simp only [Bool.and_eq_true] at hc
  obtain ⟨⟨hi, hu⟩, hsz, hesz, hnk, hik, hconc, hst⟩ := hc
  obtain ⟨d, hd⟩ := Option.isSome_iff_exists.1 hu
  have hud := run_underlying' hd
  refine { of := hof, load := ?_, zero := ?_, offs := ?_, sz := ?_, esz := ?_, nk1 := ?_, nk2 := ?_, nk3 := ?_, nk4 := ?_, nk6 := ?_, nk7 := ?_, ik := ?_, conc := ?_, places := ?_ }
  · intro m hm p
    rcases hld m hm p with ⟨⟨h0, h1⟩, cs, h2, h3⟩ | ⟨h1, h2⟩
    · exact .inl ⟨h0, cs.size, by rw [run_isAgg' hd, h1], run_sizeOf' h3, cs, h2, rfl⟩
    · exact .inr ⟨by rw [run_isAgg' hd, h1], h2⟩
  · intro z h
    rcases hz with h0 | ⟨v, hv, h0⟩
    · rw [h0] at h; cases h
    · rw [h0] at h; cases h
      exact ⟨v, run_zero' hv, rfl⟩
  · intro f n h
    rw [hd] at hst
    cases d with
    | struct fs =>
      simp only [Bool.and_eq_true, List.all_eq_true, beq_iff_eq] at hst
      obtain ⟨⟨hall, hoffs⟩, _⟩ := hst
      rw [hoffs, List.getElem?_map, Option.map_eq_some_iff] at h
      obtain ⟨fld, hf, ho⟩ := h
      have hmem : fld ∈ fs.toList := List.mem_of_getElem? hf
      obtain ⟨m, hm⟩ := Option.isSome_iff_exists.1 (hall fld hmem)
      by_cases h0 : m = 0
      · subst h0; rw [hm] at ho; simp at ho
      · have hne : ¬ sizeB P fld.type = some 0 := by rw [hm]; simpa using h0
        rw [if_neg hne] at ho
        injection ho with ho
        exact ⟨fs, fld, hud, by simpa using hf, ho, m, run_sizeOf' hm, h0⟩
    | array n el => simp only [Bool.and_eq_true] at hst; have := List.isEmpty_iff.1 hst.1; rw [this] at h; simp at h
    | _ => simp at hst; rw [hst.1] at h; simp at h
  · intro n h
    rw [h] at hsz
    exact run_sizeOf' (by simpa using hsz)
  · intro z h
    rw [h] at hesz
    simp only at hesz
    split at hesz
    · rename_i el hel hal
      simp only [Bool.and_eq_true, beq_iff_eq] at hesz
      obtain ⟨⟨h1, h2⟩, h3⟩ := hesz
      rcases he with h0 | ⟨v, hv, h0⟩
      · rw [h0] at h3; cases h3
      · rw [h0] at h3
        exact .inl ⟨hal, el, run_underlying' hel, run_sizeOf' h1, h2, v.cells.toList, h0, fun _ => ⟨v, by rw [h2]; exact run_zero' hv, rfl⟩, by simpa using h3⟩
    · rename_i n el m hel hal
      simp only [Bool.and_eq_true, beq_iff_eq] at hesz
      obtain ⟨h1, h2⟩ := hesz
      subst h1
      exact .inr ⟨n, hal, el, run_underlying' hel, run_sizeOf' h2⟩
    · cases hesz
  · intro h; unfold nkB at hnk; rw [h, hd] at hnk; cases d <;> simp at hnk; exact ⟨_, hud⟩
  · intro h; unfold nkB at hnk; rw [h, hd] at hnk; cases d <;> simp at hnk; exact ⟨_, hud⟩
  · intro h; unfold nkB at hnk; rw [h, hd] at hnk; cases d <;> simp at hnk; exact ⟨_, _, hud⟩
  · intro h; unfold nkB at hnk; rw [h, hd] at hnk; cases d <;> simp at hnk; exact ⟨_, hud⟩
  · intro h; unfold nkB at hnk; rw [h, hd] at hnk; cases d <;> simp at hnk; exact hud
  · intro h; unfold nkB at hnk; rw [h, hd] at hnk; cases d <;> simp at hnk; exact hud
  · intro kk h
    rw [h, hd] at hik
    cases d <;> simp at hik
    subst hik
    exact hud
  · intro h
    rw [h, hd] at hconc
    refine ⟨d, hud, fun ms hms => ?_⟩
    subst hms
    simp at hconc
  · intro pl h
    rw [hd, h] at hst
    cases d with
    | struct fs =>
      simp only [Bool.and_eq_true, List.all_eq_true, beq_iff_eq] at hst
      obtain ⟨⟨hall, _⟩, hpl⟩ := hst
      refine .inl ⟨fs, hud, ?_⟩
      rw [hpl]
      clear hpl
      generalize fs.toList = l at hall
      induction l with
      | nil => rfl
      | cons x l ih =>
        obtain ⟨m, hm⟩ := Option.isSome_iff_exists.1 (hall x (by simp))
        have := ih (fun y hy => hall y (by simp [hy]))
        funext w
        simp only [List.mapM_cons, Sem.run_bind, run_sizeOf' hm, Result.andThen, Sem.run_pure, List.map_cons, hm, Option.getD_some]
        have hw := congrFun this w
        rw [hw]
    | array n el =>
      simp only [Bool.and_eq_true, beq_iff_eq] at hst
      obtain ⟨_, hs, hpl⟩ := hst
      obtain ⟨m, hm⟩ := Option.isSome_iff_exists.1 hs
      refine .inr ⟨n, el, m, hud, run_sizeOf' hm, fun i x hx => ?_⟩
      rw [hpl, hm] at hx
      simp only [Option.getD_some, List.getElem?_map, Option.map_eq_some_iff] at hx
      obtain ⟨j, hj, rfl⟩ := hx
      have := List.getElem?_eq_some_iff.1 hj
      obtain ⟨h1, h2⟩ := this
      simp at h2
      subst h2
      rfl
    | _ => simp at hst
theorem lfOf {α : Type} {r : Rd α} {wr : α → List Value} {u : α → Value} (h : RdOk r wr 1) (hu : ∀ p, wr p = [u p]) : ∀ v p, ofOne r v = some p → v = u p := fun _ _ hv => ofOne_ok h hu hv
theorem agOf' {α : Type} {r : Rd α} {wr : α → List Value} {n : Nat} (h : RdOk r wr n) : ∀ v p, ofAgg r v = some p → v = .agg (wr p).toArray := fun _ _ hv => ofAgg_ok h hv
theorem agLd {t : Nat} {α : Type} {r : Rd α} {wr : α → List Value} {n : Nat} (h : RdOk r wr n) (h1 : isAggB P t = true) (h2 : sizeB P t = some n) (p : α) :
    (false = false ∧ isAggB P t = true) ∧ ∃ cs : Array Value, Value.agg (wr p).toArray = .agg cs ∧ sizeB P t = some cs.size :=
  ⟨⟨rfl, h1⟩, _, rfl, by rw [h2]; simp [h.len]⟩

end Go.Wf
