/- A part of the proof: lemmas; nothing is claimed here. -/
import Derived.Test.YtkeecncgfhgnpaaWAp
import Derived.Test.YtkeecncgfhgnpaaWEq
set_option linter.all false
namespace Go.Wf
open Go Go.RowKit
variable {P : Program} {T : TT}

/-! ### Loops that count -/
def RInv (n : Nat) {A : Type} (I : Nat → A → World → Prop) (s : A × Int × Unit) (w : World) : Prop := ∃ i : Nat, s.2.1 = (i : Int) ∧ i ≤ n ∧ I i s.1 w
theorem RInv.loop {A : Type} {n : Nat} {I : Nat → A → World → Prop} {a0 : A} {w : World} {B : (A × Int × Unit → World → Prop) → A × Int × Unit → Env → World → Prop} (h0 : I 0 a0 w)
    (hs : ∀ (i : Nat) (a : A) (w' : World), i ≤ n → I i a w' → ∀ d : Env, B (fun x' w'' => RInv n I x' w'' ∧ n - x'.2.1.toNat < n - i) (a, (i : Int), ()) d w') : loopP (X := A × Int × Unit) (a0, 0, ()) w B :=
  ⟨RInv n I, fun s _ => n - s.2.1.toNat, ⟨0, rfl, Nat.zero_le _, h0⟩, fun ⟨a, j, _⟩ w' ⟨i, hj, hi, hI⟩ d => by
    have hj : j = (i : Int) := hj
    subst hj
    exact hs i a w' hi hI d⟩
theorem wrapN {i : Nat} (h : i < 4611686018427387904) : IntKind.i64.wrap ((i : Int) + 1) = ((i + 1 : Nat) : Int) := by
  have h1 : ((i : Int) + 1) % 2 ^ 64 = (i : Int) + 1 := by omega
  simp only [IntKind.wrap, IntKind.bits, IntKind.signed, Bool.true_and, h1]
  rw [if_neg (by simp; omega)]
  omega
theorem RInv.next {A : Type} {n : Nat} {I : Nat → A → World → Prop} {i : Nat} {a : A} {w : World} (hn : n ≤ 4611686018427387904) (hi : i < n) (hI : I (i + 1) a w) :
    RInv n I (a, IntKind.i64.wrap ((i : Int) + 1), ()) w ∧ n - (IntKind.i64.wrap ((i : Int) + 1)).toNat < n - i := by
  rw [wrapN (by omega)]
  exact ⟨⟨i + 1, rfl, by omega, hI⟩, by omega⟩
def RInv0 (n : Nat) (I : Nat → World → Prop) (s : Int × Unit) (w : World) : Prop := ∃ i : Nat, s.1 = (i : Int) ∧ i ≤ n ∧ I i w
theorem RInv0.loop {n : Nat} {I : Nat → World → Prop} {w : World} {B : (Int × Unit → World → Prop) → Int × Unit → Env → World → Prop} (h0 : I 0 w)
    (hs : ∀ (i : Nat) (w' : World), i ≤ n → I i w' → ∀ d : Env, B (fun x' w'' => RInv0 n I x' w'' ∧ n - x'.1.toNat < n - i) ((i : Int), ()) d w') : loopP (X := Int × Unit) (0, ()) w B :=
  ⟨RInv0 n I, fun s _ => n - s.1.toNat, ⟨0, rfl, Nat.zero_le _, h0⟩, fun ⟨j, _⟩ w' ⟨i, hj, hi, hI⟩ d => by
    have hj : j = (i : Int) := hj
    subst hj
    exact hs i w' hi hI d⟩
theorem RInv0.next {n : Nat} {I : Nat → World → Prop} {i : Nat} {w : World} (hn : n ≤ 4611686018427387904) (hi : i < n) (hI : I (i + 1) w) :
    RInv0 n I (IntKind.i64.wrap ((i : Int) + 1), ()) w ∧ n - (IntKind.i64.wrap ((i : Int) + 1)).toNat < n - i := by
  rw [wrapN (by omega)]
  exact ⟨⟨i + 1, rfl, by omega, hI⟩, by omega⟩

/-! ### Elements -/
theorem All2.at? {G X : Type} {R : G → X → Prop} : ∀ {gs : List G} {xs : List X}, All2 R gs xs → ∀ {i : Nat} {g : G}, gs[i]? = some g → ∃ x, xs[i]? = some x ∧ R g x
  | _ :: _, x :: _, h, 0, _, hg => ⟨x, rfl, by simp at hg; subst hg; exact h.1⟩
  | _ :: _, _ :: _, h, i + 1, _, hg => by simpa using All2.at? h.2 (by simpa using hg)
  | [], _, _, _, _, hg => by simp at hg
  | _ :: _, [], h, _, _, _ => h.elim
theorem All2.at2 {G X : Type} {R : G → X → Prop} {gs : List G} {xs : List X} (h : All2 R gs xs) {i : Nat} {g : G} {x : X} (hg : gs[i]? = some g) (hx : xs[i]? = some x) : R g x := by
  obtain ⟨y, hy, hr⟩ := h.at? hg
  rw [hx] at hy
  cases hy
  exact hr
/-- Element i is loaded. -/
theorem SlT.getN {I : TI} {z : Nat} (hI : WrOk I z) {w : World} {S : Nat → Prop} {s : Sl} {l : List I.ty} (h : SlT I w S s l) {i : Nat} {K : I.ty → Prop} (hlt : i < l.length)
    (hk : ∀ v, l[i]? = some v → K v) : idxK s.a s.n (i : Int) z fun a => ldK I w a K :=
  h.get hI (by omega) (by omega) (hk _ (by simp [hlt]))
/-- Element i is loaded in a nest. -/
theorem SlT.gget {I : TI} {z : Nat} (hI : WrOk I z) {M : Nat → Prop} {w0 w : World} {th : Th} {L : List Ent} (hN : NOwn M w0 w th L) {S : Nat → Prop} {s : Sl} {l : List I.ty} (h : SlT I w S s l) {i : Nat} {K : I.ty → Prop} (hlt : i < l.length)
    (hk : ∀ v, l[i]? = some v → K v) : idxK s.a s.n (i : Int) z fun a => gLd I th a K :=
  h.idx hI (by omega) (by omega) fun _ ha _ => hN.lda ha (hk _ (by simp [hlt]))
theorem SlT.getNat {I : TI} {z : Nat} (hI : WrOk I z) {w : World} {S : Nat → Prop} {s : Sl} {l : List I.ty} (h : SlT I w S s l) {j : Int} {i : Nat} (hj : j = (i : Int)) {K : I.ty → Prop} (hlt : i < l.length)
    (hk : ∀ v, l[i]? = some v → K v) : idxK s.a s.n j z fun a => ldK I w a K := by subst hj; exact h.getN hI hlt hk
/-- A local's cells as a slice. -/
theorem Own.varSl {M : Nat → Prop} {w0 w : World} {L : List Ent} (h : Own M w0 w L) (i : Nat) {J : TI} {b t : Nat} {cs : List Value} (l : List J.ty) (hi : L[i]? = some (Var b t cs)) (hc : cs = l.flatMap (wrT J)) : SlT J w (fun k => k = b) ⟨some (bx b), l.length, l.length⟩ l := by
  subst hc
  refine ⟨rfl, Nat.le_refl _, .inr ⟨_, rfl, rfl, ?_⟩⟩
  have hF : w.heap[b]? = some (.cells (l.flatMap (wrT J)).toArray t (0, 0)) := h.hold.at i hi
  have := CellsAt.of hF 0 (cs := l.flatMap (wrT J)) (fun i v hv => by simpa using hv)
  rwa [add_zero] at this
theorem Own.snoc {M : Nat → Prop} {w0 w : World} {L : List Ent} {G X : Type} {R : Rdr G X} {N N' : Nat → Prop} {g : G} {x : X} {gs : List G} {xs : List X} (h : Own M w0 w (R.ent N' g x :: R.list.ent N gs xs :: L)) :
    Own M w0 w (R.list.ent (fun k => N' k ∨ N k) (gs ++ [g]) (xs ++ [x]) :: L) :=
  h.merge (fun _ hk => hk) fun h1 h2 => All2.snoc (All2.imp (fun _ _ => R.mono fun _ => .inr) (show All2 (R.R w N) gs xs from h2)) (R.mono (fun _ => .inl) (show R.R w N' g x from h1))
theorem Own.list0 {M : Nat → Prop} {w0 w : World} {L : List Ent} (h : Own M w0 w L) {G X : Type} (R : Rdr G X) : Own M w0 w (R.list.ent none_ [] [] :: L) := h.pure (fun _ hk => hk) trivial
theorem take_snoc {α : Type} {l : List α} {i : Nat} {x : α} (h : l[i]? = some x) : l.take (i + 1) = l.take i ++ [x] := by rw [List.take_succ, h]; rfl
/-- A slice out of an own row and what its elements read as. -/
theorem Own.slOf {w0 w : World} {L : List Ent} (h : Own none_ w0 w L) {I : TI} {el z : Nat} (hI : WrOk I z) {X : Type} {R : Rdr I.ty X} (i j : Nat) {s : Sl} {gs : List I.ty} {N : Nat → Prop} {xs : List X} (hi : L[i]? = some (RowT I el z s gs)) (hj : L[j]? = some (R.list.ent N gs xs)) :
    (Rdr.sl hI R).R w (newB w0 w) s xs :=
  ⟨gs, (Rdr.sl0 hI).mono (h.fresh i hi) (RowT.sl hI (h.hold.at i hi)), (R.list).mono (h.fresh j hj) (h.hold.at j hj)⟩
theorem Own.slOf0 {w0 w : World} {L : List Ent} (h : Own none_ w0 w L) {I : TI} {el z : Nat} (hI : WrOk I z) (i : Nat) {s : Sl} {gs : List I.ty} (hi : L[i]? = some (RowT I el z s gs)) :
    (Rdr.sl0 hI).R w (newB w0 w) s gs := (Rdr.sl0 hI).mono (h.fresh i hi) (RowT.sl hI (h.hold.at i hi))
theorem strOf_eq {a b : List Int} (ha : ∀ x ∈ a, 0 ≤ x ∧ x < 256) (hb : ∀ x ∈ b, 0 ≤ x ∧ x < 256) : ((strOf a).toList == (strOf b).toList) = decide (a = b) := by
  have h1 : ∀ l : List Int, (strOf l).toList = l.map fun n => UInt8.ofNat n.toNat := fun l => by rw [ByteArray.toList_eq]; rfl
  rw [h1, h1, Bool.eq_iff_iff, beq_iff_eq, decide_eq_true_iff]
  constructor
  · intro h
    induction a generalizing b with
    | nil => cases b with
      | nil => rfl
      | cons y b => simp at h
    | cons x a ih => cases b with
      | nil => simp at h
      | cons y b =>
        simp only [List.map_cons, List.cons.injEq] at h
        have hx := ha x (by simp)
        have hy := hb y (by simp)
        have e := congrArg UInt8.toNat h.1
        simp only [UInt8.toNat_ofNat'] at e
        have : x = y := by omega
        subst this
        rw [ih (fun z hz => ha z (by simp [hz])) (fun z hz => hb z (by simp [hz])) h.2]
  · intro h; rw [h]
end Go.Wf
