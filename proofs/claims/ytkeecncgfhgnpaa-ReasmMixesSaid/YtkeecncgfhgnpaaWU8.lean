/- A part of the proof: lemmas; nothing is claimed here. -/
import Derived.Test.YtkeecncgfhgnpaaWMq
import Derived.Test.YtkeecncgfhgnpaaWS9
set_option linter.all false
namespace Go.Wf2
open Go Go.Wf Go.Proofs
set_option linter.unusedVariables false
set_option linter.deprecated false
set_option maxRecDepth 4000
/-- A map of pieces. -/
def kp (ps : List GPiece) : List (Int × GPiece) := ps.map fun p => (p.TSN, p)
theorem kp_len (ps : List GPiece) : (kp ps).length = ps.length := by simp [kp]
theorem getG_kp (ps : List GPiece) (k : Int) : getG (kp ps) k = ps.find? fun g => decide (g.TSN = k) := by
  induction ps with
  | nil => rfl
  | cons p ps ih =>
    simp only [kp, List.map_cons, getG, List.find?_cons] at ih ⊢
    by_cases h : p.TSN = k
    · simp [h]
    · simp only [h, decide_false]
      exact ih
theorem putG_kp {ps : List GPiece} {p : GPiece} (h : ps.find? (fun g => decide (g.TSN = p.TSN)) = none) : putG (kp ps) p.TSN p = kp (ps ++ [p]) := by
  have : (kp ps).any (fun g => decide (g.1 = p.TSN)) = false := by
    rw [List.any_eq_false]
    intro g hg
    obtain ⟨q, hq, rfl⟩ := List.mem_map.1 hg
    have := List.find?_eq_none.1 h q hq
    simpa using this
  unfold putG
  rw [this]
  simp [kp]
theorem delG_kp (ps : List GPiece) (k : Int) : delG (kp ps) k = kp (ps.filter fun g => decide (g.TSN ≠ k)) := by
  simp [delG, kp, List.filter_map, Function.comp_def]
/-- The entries of a bench. -/
abbrev rPieces : Rdr (List GPiece) (List XPiece) := rPiece.list
theorem reasmNew_spec {w0 w : World} {B : List Ent} (H : Go.Wf.Own none_ w0 w B) : C_reasm_New w fun r w' => ∃ bb m, r = some (bx bb) ∧ Go.Wf.Own none_ w0 w' (Var bb 162 [.map (some m), .int .i64 0] :: MapB ti23 ti60 m (kp []) :: rPieces.ent none_ [] [] :: B) := by
  refine E_reasm_New _ _ ?_
  refine H.newMap ti23 ti60 fun b w1 H _ => ?_
  refine H.new fun b2 w2 H _ => ?_
  have H := ((H.list0 rPiece).front 2 rfl).front 2 rfl
  exact ⟨_, _, rfl, H⟩
theorem reasmLen_spec {w0 w : World} {B : List Ent} {bb m : Nat} {held : Int} {gs : List (Int × GPiece)} (H : Go.Wf.Own none_ w0 w (Var bb 162 [.map (some m), .int .i64 held] :: MapB ti23 ti60 m gs :: B)) : C_reasm_Bench_Len (some (bx bb)) w fun r w' => r = gs.length ∧ Go.Wf.Own none_ w0 w' (Var bb 162 [.map (some m), .int .i64 held] :: MapB ti23 ti60 m gs :: B) := by
  refine E_reasm_Bench_Len _ _ _ ?_
  refine ifK.mk (fun h => by cases h) (fun _ => ?_)
  refine ⟨_, rfl, ?_⟩
  refine H.ld 0 0 rfl rfl rfl (p := (some m)) ?_
  refine len160 H 1 rfl fun w1 H => ?_
  exact ⟨rfl, H⟩
theorem reasmHeld_spec {w0 w : World} {B : List Ent} {bb m : Nat} {held : Int} (H : Go.Wf.Own none_ w0 w (Var bb 162 [.map (some m), .int .i64 held] :: B)) : C_reasm_Bench_Held (some (bx bb)) w fun r w' => r = held ∧ Go.Wf.Own none_ w0 w' (Var bb 162 [.map (some m), .int .i64 held] :: B) := by
  refine E_reasm_Bench_Held _ _ _ ?_
  refine ifK.mk (fun h => by cases h) (fun _ => ?_)
  refine ⟨_, rfl, ?_⟩
  refine H.ld 0 1 rfl rfl rfl (p := held) ?_
  exact ⟨rfl, H⟩
theorem reasmHas_spec {w0 w : World} {B : List Ent} {bb m : Nat} {held k : Int} {gs : List (Int × GPiece)} (H : Go.Wf.Own none_ w0 w (Var bb 162 [.map (some m), .int .i64 held] :: MapB ti23 ti60 m gs :: B)) : C_reasm_Bench_Has (some (bx bb)) k w fun r w' => r = (getG gs k).isSome ∧ Go.Wf.Own none_ w0 w' (Var bb 162 [.map (some m), .int .i64 held] :: MapB ti23 ti60 m gs :: B) := by
  refine E_reasm_Bench_Has _ _ _ _ ?_
  refine ifK.mk (fun h => by cases h) (fun _ => ?_)
  refine ⟨_, rfl, ?_⟩
  refine H.ld 0 0 rfl rfl rfl (p := (some m)) ?_
  refine look160 H 1 rfl _ fun v2 w1 H e_v2 => ?_
  refine H.new fun b2 w2 H _ => ?_
  refine H.st 0 0 rfl rfl rfl fun w3 H => ?_
  replace H : Go.Wf.Own _ _ _ (Var b2 _ [.int .u32 v2.1.TSN, .int .u16 v2.1.Stream, .int .u16 v2.1.Seq, .bool v2.1.Begin, .bool v2.1.End, .bool v2.1.Unordered, .slice v2.1.Text.a v2.1.Text.n v2.1.Text.c] :: _) := H
  have H := H.drop 0
  exact ⟨by rw [e_v2], H⟩
theorem reasmRight_spec {p : GPiece} {w : World} : C_reasm_right p w (Val w (decide (1 ≤ p.Text.n ∧ p.Text.n ≤ 64 ∧ p.Stream < 8))) := by
  refine E_reasm_right _ _ _ ?_
  have H := Own.start none_ w
  refine H.new fun b w1 H _ => ?_
  refine H.ld 0 6 rfl rfl rfl (p := p.Text) ?_
  refine ifK.mk (fun q1 => ?_) (fun q1 => ?_)
  · skip
    have q1 := of_decide_eq_true q1
    refine H.ld 0 6 rfl rfl rfl (p := p.Text) ?_
    refine ifK.mk (fun q2 => ?_) (fun q2 => ?_)
    · skip
      have q2 := of_decide_eq_true q2
      refine H.ld 0 1 rfl rfl rfl (p := p.Stream) ?_
      refine ⟨H.step, ?_⟩
      rw [Bool.eq_iff_iff]; simp; omega
    · skip
      have q2 := of_decide_eq_false q2
      refine ⟨H.step, ?_⟩
      simp; omega
  · skip
    have q1 := of_decide_eq_false q1
    refine ⟨H.step, ?_⟩
    simp; omega
theorem reasmCopied_spec {p : GPiece} {w : World} {S : Nat → Prop} {x : XPiece} (hx : rPiece.R w S p x) (hl : x.Text.length ≤ 100000000) : C_reasm_copied p w (Made w (fun r N => rPiece.ent N r x) (fun r => ∃ t, r = { p with Text := t })) := by
  refine E_reasm_copied _ _ _ ?_
  have H := Own.start none_ w
  refine H.new fun b w1 H _ => ?_
  refine H.new fun b2 w2 H _ => ?_
  refine H.ld 1 6 rfl rfl rfl (p := p.Text) ?_
  refine C_slices_Clone_byte.mono (clone_byte (rBytes.ext hx.1 H.step) (by omega)) fun v2 w3 h_v2 => ?_
  have H := H.made h_v2
  have p_v2 := h_v2.2.2.2
  refine H.st 2 6 rfl rfl rfl fun w4 H => ?_
  replace H : Go.Wf.Own _ _ _ (_ :: _ :: Var b _ [.int .u32 p.TSN, .int .u16 p.Stream, .int .u16 p.Seq, .bool p.Begin, .bool p.End, .bool p.Unordered, .slice v2.a v2.n v2.c] :: _) := H
  refine H.ld 2 0 rfl rfl rfl (p := (⟨p.TSN, p.Stream, p.Seq, p.Begin, p.End, p.Unordered, v2⟩ : GPiece)) ?_
  refine H.st 1 0 rfl rfl rfl fun w5 H => ?_
  replace H : Go.Wf.Own _ _ _ (_ :: Var b2 _ [.int .u32 p.TSN, .int .u16 p.Stream, .int .u16 p.Seq, .bool p.Begin, .bool p.End, .bool p.Unordered, .slice v2.a v2.n v2.c] :: _) := H
  refine H.ld 1 0 rfl rfl rfl (p := (⟨p.TSN, p.Stream, p.Seq, p.Begin, p.End, p.Unordered, v2⟩ : GPiece)) ?_
  exact ⟨H.step, ⟨(H.got 0 rfl), hx.2⟩, fun _ h => h, ⟨_, rfl⟩⟩
end Go.Wf2

namespace Go.Wf2
open Go Go.Wf Go.Proofs
set_option linter.unusedVariables false
set_option linter.deprecated false
set_option maxRecDepth 4000
theorem _root_.Go.Wf.Own.tail {M : Nat → Prop} {w0 w : World} {e : Ent} {L : List Ent} (h : Go.Wf.Own M w0 w (e :: L)) : Go.Wf.Own M w0 w L := h.drop 0
/-- Part of element i is loaded. -/
theorem _root_.Go.Wf.SlT.getPart {I J : TI} {z : Nat} (hI : WrOk I z) {w : World} {S : Nat → Prop} {s : Sl} {l : List I.ty} (h : SlT I w S s l) {j : Int} {i : Nat} (hj : j = (i : Int)) {v : I.ty} (hv : l[i]? = some v) (n : Nat) {r : List Value} {p : J.ty} (hc : (cellsT I (I.val v)).drop n = cellsT J (J.val p) ++ r) {K : J.ty → Prop} (hk : K p) :
    idxK s.a s.n j z fun a => Go.Wf.ldK J w (a.add n) K := by
  subst hj
  obtain ⟨hlt, rfl⟩ := List.getElem?_eq_some_iff.1 hv
  exact h.idx hI (by omega) (by omega) fun a ha _ => ldK.part ha n hc hk
theorem _root_.Go.Wf.SlT.ggetPart {I J : TI} {z : Nat} (hI : WrOk I z) {M : Nat → Prop} {w0 w : World} {th : Th} {L : List Ent} (hN : NOwn M w0 w th L) {S : Nat → Prop} {s : Sl} {l : List I.ty} (h : SlT I w S s l) {j : Int} {i : Nat} (hj : j = (i : Int)) {v : I.ty} (hv : l[i]? = some v) (n : Nat) {r : List Value} {p : J.ty} (hc : (cellsT I (I.val v)).drop n = cellsT J (J.val p) ++ r) {K : J.ty → Prop} (hk : K p) :
    idxK s.a s.n j z fun a => gLd J th (a.add n) K := by
  subst hj
  obtain ⟨hlt, rfl⟩ := List.getElem?_eq_some_iff.1 hv
  exact h.idx hI (by omega) (by omega) fun a ha _ => hN.part ha n hc hk
def errV (k : Int) : Value := if k = 0 then .nilIface else .iface 101 (.int .i64 k)
theorem errV_ifc (k : Int) : isIfc (errV k) = true := by unfold errV; split <;> rfl
theorem errV_nil (k : Int) : isNilV (errV k) = decide (k = 0) := by unfold errV; split <;> simp_all [isNilV]
def mayX (n stream : Int) (has : Bool) (held : Int) : Int := if ¬ (1 ≤ n ∧ n ≤ 64 ∧ stream < 8) then 2 else if has then 12 else if held + n > 2000 then 3 else 0
theorem reasmMay_spec {w0 w : World} {B : List Ent} {bb m : Nat} {held : Int} {gs : List (Int × GPiece)} {p : GPiece} (H : Go.Wf.Own none_ w0 w (Var bb 162 [.map (some m), .int .i64 held] :: MapB ti23 ti60 m gs :: B)) (h1 : 0 ≤ held) (h2 : held ≤ 1000000) : C_reasm_Bench_may (some (bx bb)) p w fun r w' => r = errV (mayX p.Text.n p.Stream (getG gs p.TSN).isSome held) ∧ Go.Wf.Own none_ w0 w' (Var bb 162 [.map (some m), .int .i64 held] :: MapB ti23 ti60 m gs :: B) := by
  refine E_reasm_Bench_may _ _ _ _ ?_
  refine H.new fun b2 w1 H _ => ?_
  refine ifK.mk (fun h => by cases h) (fun _ => ?_)
  refine H.ld 0 0 rfl rfl rfl (p := p) ?_
  refine C_reasm_right.mono (reasmRight_spec) fun v2 w2 h_v2 => ?_
  obtain ⟨hx_w2, rfl⟩ := h_v2
  have H := H.ext hx_w2
  refine ifK.mk (fun q1 => ?_) (fun q1 => ?_)
  · skip
    have H := H.drop 0
    rw [Bool.not_eq_true', decide_eq_false_iff_not] at q1
    exact ⟨by rw [mayX, if_pos (by omega)]; rfl, H⟩
  · skip
    refine H.ld 0 0 rfl rfl rfl (p := p.TSN) ?_
    refine C_reasm_Bench_Has.mono (reasmHas_spec (H.front 2 rfl |>.front 2 rfl)) fun v4 w3 h_v4 => ?_
    obtain ⟨e_v4, H⟩ := h_v4
    refine ifK.mk (fun q2 => ?_) (fun q2 => ?_)
    · skip
      have H := H.drop 2
      have q1 : (1 ≤ p.Text.n ∧ p.Text.n ≤ 64 ∧ p.Stream < 8) := by simpa using q1
      subst e_v4
      exact ⟨by rw [mayX, if_neg (by omega), if_pos q2]; rfl, H⟩
    · skip
      refine ⟨_, rfl, ?_⟩
      have HN := H.nest
      refine HN.ld 0 1 rfl rfl rfl (p := held) ?_
      refine HN.ld 2 6 rfl rfl rfl (p := p.Text) ?_
      refine HN.fin fun w4 hx_w4 H => ?_
      have hX := hx_w4
      refine ifK.mk (fun q3 => ?_) (fun q3 => ?_)
      · skip
        have q3 := of_decide_eq_true q3
        have H := H.drop 2
        have q1 : (1 ≤ p.Text.n ∧ p.Text.n ≤ 64 ∧ p.Stream < 8) := by simpa using q1
        subst e_v4
        rw [wrap64 (by omega) (by omega)] at q3
        exact ⟨by rw [mayX, if_neg (by omega), if_neg (by simp [q2]), if_pos q3]; rfl, H⟩
      · skip
        have q3 := of_decide_eq_false q3
        have H := H.drop 2
        have q1 : (1 ≤ p.Text.n ∧ p.Text.n ≤ 64 ∧ p.Stream < 8) := by simpa using q1
        subst e_v4
        rw [wrap64 (by omega) (by omega)] at q3
        exact ⟨by rw [mayX, if_neg (by omega), if_neg (by simp [q2]), if_neg q3]; rfl, H⟩
theorem reasmLay_spec {w0 w : World} {B : List Ent} {bb m : Nat} {held : Int} {ps : List GPiece} {xs : List XPiece} {N : Nat → Prop} {p : GPiece} {x : XPiece} (H : Go.Wf.Own none_ w0 w (Var bb 162 [.map (some m), .int .i64 held] :: MapB ti23 ti60 m (kp ps) :: rPieces.ent N ps xs :: B))
    (hp : ∀ W, Go.Wf.Own none_ w0 W B → ∃ S, rPiece.R W S p x) (hl : x.Text.length ≤ 1000) (ha : ps.find? (fun g => decide (g.TSN = p.TSN)) = none) (h1 : 0 ≤ held) (h2 : held ≤ 1000000) :
    C_reasm_Bench_lay (some (bx bb)) p w fun _ w' => ∃ t N', Go.Wf.Own none_ w0 w' (Var bb 162 [.map (some m), .int .i64 (held + x.Text.length)] :: MapB ti23 ti60 m (kp (ps ++ [{ p with Text := t }])) :: rPieces.ent N' (ps ++ [{ p with Text := t }]) (xs ++ [x]) :: B) := by
  refine E_reasm_Bench_lay _ _ _ _ ?_
  refine H.new fun b2 w1 H _ => ?_
  refine ⟨_, GOk.ext _, ?_⟩
  refine ⟨_, rfl, ?_⟩
  have HN := H.nest
  refine HN.ld 1 0 rfl rfl rfl (p := (some m)) ?_
  refine HN.ld 0 0 rfl rfl rfl (p := p.TSN) ?_
  refine HN.ld 0 0 rfl rfl rfl (p := p) ?_
  refine HN.fin fun w2 hx_w2 H => ?_
  have hX := hx_w2
  have hp1 := hp _ H.tail.tail.tail.tail
  obtain ⟨S, hp1⟩ := hp1
  refine C_reasm_copied.mono (reasmCopied_spec hp1 (by omega)) fun v4 w3 h_v4 => ?_
  have H := H.made h_v4
  have p_v4 := h_v4.2.2.2
  have hX := hX.trans h_v4.1
  obtain ⟨t, e_v4⟩ := p_v4
  have H := H.front 4 rfl
  have H := H.front 1 rfl
  have H := H.snoc
  refine ⟨hX, ?_⟩
  refine put160 H 3 rfl _ v4 fun w4 H => ?_
  replace H : Go.Wf.Own _ _ _ (_ :: _ :: _ :: MapB _ _ _ _ :: _) := H
  refine ⟨_, rfl, ?_⟩
  have HN := H.nest
  refine HN.ld 2 1 rfl rfl rfl (p := held) ?_
  refine HN.ld 1 6 rfl rfl rfl (p := p.Text) ?_
  refine ⟨_, rfl, ?_⟩
  refine HN.fin fun w5 hx_w5 H => ?_
  have hX := hx_w5
  refine H.st 2 1 rfl rfl rfl fun w6 H => ?_
  replace H : Go.Wf.Own _ _ _ (_ :: _ :: Var bb _ [.map (some m), .int .i64 (IntKind.i64.wrap (held + (p.Text.n : Int)))] :: _) := H
  subst e_v4
  have e := putG_kp (p := { p with Text := t }) ha
  simp only at e
  rw [e] at H
  have hn : (p.Text.n : Int) = x.Text.length := by have := hp1.1.1; omega
  rw [hn, wrap64 (by omega) (by omega)] at H
  exact ⟨t, _, ((H.drop 1).front 2 rfl).front 2 rfl⟩
end Go.Wf2

namespace Go.Wf
open Go Go.RowKit
/-! ### Loops that come to an end by something that is not a variable -/
theorem least_ex {p : Nat → Prop} (h : ∃ n, p n) : ∃ n, p n ∧ ∀ m, p m → n ≤ m := by
  obtain ⟨n, hn⟩ := h
  induction n using Nat.strongRecOn with
  | _ n ih =>
    by_cases hx : ∃ m, m < n ∧ p m
    · obtain ⟨m, hm, hp⟩ := hx
      exact ih m hm hp
    · exact ⟨n, hn, fun m hm => Nat.le_of_not_lt fun hlt => hx ⟨m, hlt, hm⟩⟩
open Classical in
noncomputable def least (p : Nat → Prop) : Nat := if h : ∃ n, p n then Classical.choose (least_ex h) else 0
theorem least_of {p : Nat → Prop} (h : ∃ n, p n) : p (least p) ∧ ∀ m, p m → least p ≤ m := by
  unfold least
  rw [dif_pos h]
  exact Classical.choose_spec (least_ex h)
def LI {X : Type} (I : Nat → X → World → Prop) (n : Nat) (s : X) (w : World) : Prop := (∃ m, I m s w) ∧ least (fun m => I m s w) < n
theorem LI.next {X : Type} {I : Nat → X → World → Prop} {n m : Nat} {s : X} {w : World} (hm : m < n) (h : I m s w) : LI I n s w :=
  ⟨⟨m, h⟩, Nat.lt_of_le_of_lt ((least_of ⟨m, h⟩).2 m h) hm⟩
theorem LI.loop {X : Type} {I : Nat → X → World → Prop} {x0 : X} {w : World} {B : (X → World → Prop) → X → Env → World → Prop} (n0 : Nat) (h0 : I n0 x0 w) (hs : ∀ (n : Nat) (s : X) (w' : World), I n s w' → ∀ d : Env, B (LI I n) s d w') : loopP x0 w B :=
  ⟨fun s w' => ∃ m, I m s w', fun s w' => least (fun m => I m s w'), ⟨n0, h0⟩, fun s w' h d => hs _ s w' (least_of h).1 d⟩
theorem countP_lt {α : Type} {p q : α → Bool} (hpq : ∀ a, p a = true → q a = true) : ∀ {l : List α} {y : α}, y ∈ l → q y = true → p y = false → l.countP p + 1 ≤ l.countP q
  | [], _, h, _, _ => by simp at h
  | x :: l, y, h, h1, h2 => by
    have hle : l.countP p ≤ l.countP q := List.countP_mono_left fun a _ => hpq a
    rcases List.mem_cons.1 h with rfl | h
    · simp only [List.countP_cons, h1, h2, if_true]; simp; omega
    · have ih := countP_lt hpq h h1 h2
      simp only [List.countP_cons]
      have := hpq x
      split
      · rw [if_pos (hpq x (by assumption))]; omega
      · split <;> omega
end Go.Wf
namespace Go.Wf2
open Go Go.Wf Go.Proofs
def stepT (t n : Int) : Int := IntKind.u32.wrap (t + IntKind.u32.wrap n)
def findX (xs : List XPiece) (t : Int) : Option XPiece := xs.find? fun x => decide (x.TSN = t)
/-- The first piece of a part, and how a part goes on. -/
def startF (xs : List XPiece) : Nat → XPiece → XPiece
  | 0, x => x
  | n + 1, x => if x.Begin then x else match findX xs (stepT x.TSN (-1)) with
    | none => x
    | some y => if y.End then x else startF xs n y
def restF (xs : List XPiece) : Nat → XPiece → List XPiece
  | 0, _ => []
  | n + 1, x => if x.End then [] else match findX xs (stepT x.TSN 1) with
    | none => []
    | some y => if y.Begin then [] else y :: restF xs n y
def partX (xs : List XPiece) (x : XPiece) : List XPiece := startF xs (xs.length + 1) x :: restF xs (xs.length + 1) (startF xs (xs.length + 1) x)
def offB (t : Int) (y : XPiece) : Nat := ((t - y.TSN) % 4294967296).toNat
def offA (t : Int) (y : XPiece) : Nat := ((y.TSN - t) % 4294967296).toNat
theorem wrapU32 (n : Int) : IntKind.u32.wrap n = n % 4294967296 := by simp [IntKind.wrap, IntKind.bits, IntKind.signed]
theorem find_mem {xs : List XPiece} {t : Int} {y : XPiece} (h : findX xs t = some y) : y ∈ xs ∧ y.TSN = t := ⟨List.mem_of_find?_eq_some h, by have := List.find?_some h; simpa using this⟩
theorem back_step {xs : List XPiece} {t : Int} {k : Nat} {x y : XPiece} (hk : offB t x = k) (hc : xs.countP (fun z => decide (k < offB t z)) + k ≤ xs.length) (hf : findX xs (stepT x.TSN (-1)) = some y) (hl : xs.length < 4294967295) :
    offB t y = k + 1 ∧ xs.countP (fun z => decide (k + 1 < offB t z)) + (k + 1) ≤ xs.length := by
  obtain ⟨hm, hy⟩ := find_mem hf
  have h1 : offB t y = k + 1 := by
    unfold offB at hk ⊢
    rw [hy, stepT, wrapU32, wrapU32]
    omega
  refine ⟨h1, ?_⟩
  have := countP_lt (p := fun z => decide (k + 1 < offB t z)) (q := fun z => decide (k < offB t z)) (fun a h => by simp at h ⊢; omega) hm (by simp [h1]) (by simp [h1])
  omega
theorem fore_step {xs : List XPiece} {t : Int} {k : Nat} {x y : XPiece} (hk : offA t x = k) (hc : xs.countP (fun z => decide (k < offA t z)) + k ≤ xs.length) (hf : findX xs (stepT x.TSN 1) = some y) (hl : xs.length < 4294967295) :
    offA t y = k + 1 ∧ xs.countP (fun z => decide (k + 1 < offA t z)) + (k + 1) ≤ xs.length := by
  obtain ⟨hm, hy⟩ := find_mem hf
  have h1 : offA t y = k + 1 := by
    unfold offA at hk ⊢
    rw [hy, stepT, wrapU32, wrapU32]
    omega
  refine ⟨h1, ?_⟩
  have := countP_lt (p := fun z => decide (k + 1 < offA t z)) (q := fun z => decide (k < offA t z)) (fun a h => by simp at h ⊢; omega) hm (by simp [h1]) (by simp [h1])
  omega
theorem off_self (t : XPiece) : offB t.TSN t = 0 ∧ offA t.TSN t = 0 := by simp [offB, offA]
/-- Which memory a piece's text stands in. -/
def Lk (p : GPiece) (xp : XPiece) (ps : List GPiece) (xs : List XPiece) (g : GPiece) (x : XPiece) : Prop := (g = p ∧ x = xp) ∨ ∃ i : Nat, ps[i]? = some g ∧ xs[i]? = some x
theorem find_rel {R : GPiece → XPiece → Prop} (hR : ∀ g x, R g x → g.TSN = x.TSN) : ∀ {ps : List GPiece} {xs : List XPiece}, All2 R ps xs → ∀ t : Int,
    (ps.find? (fun g => decide (g.TSN = t)) = none ∧ findX xs t = none) ∨ ∃ (g : GPiece) (x : XPiece) (i : Nat), ps.find? (fun g => decide (g.TSN = t)) = some g ∧ findX xs t = some x ∧ ps[i]? = some g ∧ xs[i]? = some x
  | [], [], _, _ => .inl ⟨rfl, rfl⟩
  | g :: ps, x :: xs, h, t => by
    have e := hR _ _ h.1
    by_cases hg : g.TSN = t
    · exact .inr ⟨g, x, 0, by simp [hg], by simp [findX, ← e, hg], rfl, rfl⟩
    · rcases find_rel hR h.2 t with ⟨h1, h2⟩ | ⟨g', x', i, h1, h2, h3, h4⟩
      · exact .inl ⟨by simp [List.find?_cons, hg, h1], by simp only [findX, List.find?_cons, ← e, hg, decide_false]; exact h2⟩
      · exact .inr ⟨g', x', i + 1, by simp [List.find?_cons, hg, h1], by simp only [findX, List.find?_cons, ← e, hg, decide_false]; exact h2, by simpa using h3, by simpa using h4⟩
  | [], _ :: _, h, _ => h.elim
  | _ :: _, [], h, _ => h.elim
theorem piece_tsn {W : World} {S : Nat → Prop} {g : GPiece} {x : XPiece} (h : rPiece.R W S g x) : g.TSN = x.TSN ∧ g.Begin = x.Begin ∧ g.End = x.End ∧ g.Stream = x.Stream ∧ g.Seq = x.Seq ∧ g.Unordered = x.Unordered := by
  have := h.2
  exact ⟨(congrArg XPiece.TSN this).symm, (congrArg XPiece.Begin this).symm, (congrArg XPiece.End this).symm, (congrArg XPiece.Stream this).symm, (congrArg XPiece.Seq this).symm, (congrArg XPiece.Unordered this).symm⟩
end Go.Wf2

namespace Go.Wf2
open Go Go.Wf Go.Proofs
set_option linter.unusedVariables false
set_option linter.deprecated false
set_option maxRecDepth 4000
def closedG (gs : List GPiece) : Bool := ((gs[0]?.map (·.Begin)).getD false) && ((gs[gs.length - 1]?.map (·.End)).getD false)
theorem serialStep_spec {a n : Int} {w : World} : C_serial_Step_uint32 a n w (Val w (stepT a n)) := E_serial_Step_uint32 _ _ _ _ ⟨Ext.refl _, rfl⟩
theorem reasmClosed_spec {part : Sl} {w : World} {S : Nat → Prop} {gs : List GPiece} (h : SlT ti60 w S part gs) (hn : gs ≠ []) (hl : gs.length < 1000000) : C_reasm_closed part w (Val w (closedG gs)) := by
  refine E_reasm_closed _ _ _ ?_
  have hlen := h.len
  have h0 : 0 < gs.length := List.length_pos_iff.2 hn
  have g0 : gs[0]? = some gs[0] := List.getElem?_eq_getElem h0
  have g1 : gs[gs.length - 1]? = some gs[gs.length - 1] := List.getElem?_eq_getElem (by omega)
  have H := Own.start none_ w
  refine h.getPart ok60 (i := 0) rfl g0 3 (J := ti4) (p := gs[0].Begin) rfl ?_
  skip
  refine ifK.mk (fun q1 => ?_) (fun q1 => ?_)
  · skip
    refine h.getPart ok60 (i := gs.length - 1) (by rw [wrap64 (by omega) (by omega)]; omega) g1 4 (J := ti4) (p := gs[gs.length - 1].End) rfl ?_
    skip
    exact ⟨H.step, by simp [closedG, g0, g1, q1]⟩
  · skip
    exact ⟨H.step, by simp [closedG, g0, q1]⟩
/-- Pieces are taken off. -/
def offG (gs ps : List GPiece) : List GPiece := gs.foldl (fun ps g => ps.filter fun q => decide (q.TSN ≠ g.TSN)) ps
def lensG (gs : List GPiece) : Int := (gs.map fun g => (g.Text.n : Int)).sum
theorem offG_snoc (gs ps : List GPiece) (g : GPiece) : offG (gs ++ [g]) ps = (offG gs ps).filter fun q => decide (q.TSN ≠ g.TSN) := by simp [offG]
theorem lensG_snoc (gs : List GPiece) (g : GPiece) : lensG (gs ++ [g]) = lensG gs + g.Text.n := by simp [lensG]
theorem lensG_nonneg (gs : List GPiece) : 0 ≤ lensG gs := by
  induction gs with
  | nil => simp [lensG]
  | cons g gs ih => simp only [lensG, List.map_cons, List.sum_cons] at ih ⊢; omega
theorem lensG_le {gs : List GPiece} {n : Nat} (h : ∀ (i : Nat) g, gs[i]? = some g → g.Text.n ≤ n) : lensG gs ≤ gs.length * n := by
  induction gs with
  | nil => simp [lensG]
  | cons g gs ih =>
    have h1 := h 0 g rfl
    have h2 := ih fun i g hg => h (i + 1) g (by simpa using hg)
    simp only [lensG, List.map_cons, List.sum_cons, List.length_cons] at h2 ⊢
    have : ((gs.length + 1 : Nat) : Int) * n = gs.length * n + n := by push_cast; rw [Int.add_mul]; omega
    omega
theorem reasmOff_spec {w0 w : World} {B : List Ent} {bb m : Nat} {held : Int} {ps gs : List GPiece} {part : Sl} (H : Go.Wf.Own none_ w0 w (Var bb 162 [.map (some m), .int .i64 held] :: MapB ti23 ti60 m (kp ps) :: B)) (hr : ∀ W, Go.Wf.Own none_ w0 W B → ∃ S, SlT ti60 W S part gs)
    (hg : ∀ (i : Nat) g, gs[i]? = some g → g.Text.n ≤ 1000) (hl : gs.length ≤ 200000) (h1 : -1000000 ≤ held) (h2 : held ≤ 1000000) : C_reasm_Bench_off (some (bx bb)) part w fun _ w' => Go.Wf.Own none_ w0 w' (Var bb 162 [.map (some m), .int .i64 (held - lensG gs)] :: MapB ti23 ti60 m (kp (offG gs ps)) :: B) := by
  refine E_reasm_Bench_off _ _ _ _ ?_
  obtain ⟨S0, hr0⟩ := hr _ H.tail.tail
  have hlen := hr0.len
  refine RInv0.loop (n := gs.length) (I := fun i w' => Go.Wf.Own none_ w0 w' (Var bb 162 [.map (some m), .int .i64 (held - lensG (gs.take i))] :: MapB ti23 ti60 m (kp (offG (gs.take i) ps)) :: B)) (by simpa [lensG, offG] using H) ?_
  rintro i  w1 hi hI d
  have H := hI
  dsimp only
  obtain ⟨S, hr1⟩ := hr _ H.tail.tail
  refine ifK.mk (fun hc1 => ?_) (fun hc1 => ?_)
  · skip
    have hc1 := of_decide_eq_true hc1
    refine SlT.getN ok60 hr1 (by omega) fun v hv => ?_
    refine H.new fun b2 w2 H _ => ?_
    refine H.st 0 0 rfl rfl rfl fun w3 H => ?_
    replace H : Go.Wf.Own _ _ _ (Var b2 _ [.int .u32 v.TSN, .int .u16 v.Stream, .int .u16 v.Seq, .bool v.Begin, .bool v.End, .bool v.Unordered, .slice v.Text.a v.Text.n v.Text.c] :: _) := H
    refine ⟨_, rfl, ?_⟩
    have HN := H.nest
    refine HN.ld 1 0 rfl rfl rfl (p := (some m)) ?_
    refine HN.ld 0 0 rfl rfl rfl (p := v.TSN) ?_
    refine HN.fin fun w4 hx_w4 H => ?_
    have hX := hx_w4
    refine del160 H 2 rfl _ fun w5 H => ?_
    replace H : Go.Wf.Own _ _ _ (_ :: _ :: MapB _ _ _ _ :: _) := H
    refine ⟨_, rfl, ?_⟩
    have HN := H.nest
    refine HN.ld 1 1 rfl rfl rfl (p := (held - lensG (gs.take i))) ?_
    refine HN.ld 0 6 rfl rfl rfl (p := v.Text) ?_
    refine ⟨_, rfl, ?_⟩
    refine HN.fin fun w6 hx_w6 H => ?_
    have hX := hx_w6
    refine H.st 1 1 rfl rfl rfl fun w7 H => ?_
    replace H : Go.Wf.Own _ _ _ (_ :: Var bb _ [.map (some m), .int .i64 (IntKind.i64.wrap ((held - lensG (gs.take i)) - (v.Text.n : Int)))] :: _) := H
    have H := H.drop 0
    have hgi := hg i _ hv
    have t1 := lensG_nonneg (gs.take i)
    have t2 := lensG_le (gs := gs.take i) (n := 1000) fun j g hj => hg j g (by rw [List.getElem?_take] at hj; split at hj <;> first | exact hj | cases hj)
    rw [List.length_take_of_le (by omega)] at t2
    rw [wrap64 (n := held - lensG (gs.take i) - (v.Text.n : Int)) (by omega) (by omega), delG_kp] at H
    refine RInv0.next (by omega) (by omega) ?_
    rw [take_snoc hv, lensG_snoc, offG_snoc]
    have e : held - (lensG (gs.take i) + (v.Text.n : Int)) = held - lensG (gs.take i) - (v.Text.n : Int) := by omega
    rw [e]
    exact H
  · skip
    have hc1 := of_decide_eq_false hc1
    have hil : i = gs.length := by omega
    subst hil
    rw [List.take_of_length_le (by omega)] at H
    exact H
end Go.Wf2

namespace Go.Wf2
open Go Go.Wf Go.Proofs
set_option linter.unusedVariables false
set_option linter.deprecated false
set_option maxRecDepth 4000
theorem Lk.get {p g : GPiece} {xp x : XPiece} {ps : List GPiece} {xs : List XPiece} (h : Lk p xp ps xs g x) {W : World} {S N : Nat → Prop} (hp : rPiece.R W S p xp) (ht : rPieces.R W N ps xs) : ∃ S, rPiece.R W S g x := by
  rcases h with ⟨rfl, rfl⟩ | ⟨i, h1, h2⟩
  · exact ⟨_, hp⟩
  · exact ⟨_, All2.at2 (show All2 (rPiece.R W N) ps xs from ht) h1 h2⟩
/-- What the look-up of a neighbour gives. -/
theorem look_rel {W : World} {N : Nat → Prop} {ps : List GPiece} {xs : List XPiece} (ht : rPieces.R W N ps xs) {t : Int} {r : GPiece × Bool} (e : r = ((getG (kp ps) t).getD g0, (getG (kp ps) t).isSome)) :
    (r.2 = false ∧ findX xs t = none) ∨ ∃ (x : XPiece) (i : Nat), r.2 = true ∧ findX xs t = some x ∧ ps[i]? = some r.1 ∧ xs[i]? = some x := by
  rw [getG_kp] at e
  subst e
  rcases find_rel (fun g x h => (piece_tsn h).1) (show All2 (rPiece.R W N) ps xs from ht) t with ⟨h1, h2⟩ | ⟨g, x, i, h1, h2, h3, h4⟩
  · left; simp [h1, h2]
  · right; exact ⟨x, i, by simp [h1], h2, by simpa [h1] using h3, h4⟩
theorem startF_b {xs : List XPiece} {n : Nat} {x : XPiece} (h : x.Begin = true) : startF xs (n + 1) x = x := by simp [startF, h]
theorem startF_n {xs : List XPiece} {n : Nat} {x : XPiece} (h : x.Begin = false) (hf : findX xs (stepT x.TSN (-1)) = none) : startF xs (n + 1) x = x := by simp [startF, h, hf]
theorem startF_e {xs : List XPiece} {n : Nat} {x y : XPiece} (h : x.Begin = false) (hf : findX xs (stepT x.TSN (-1)) = some y) (he : y.End = true) : startF xs (n + 1) x = x := by simp [startF, h, hf, he]
theorem startF_s {xs : List XPiece} {n : Nat} {x y : XPiece} (h : x.Begin = false) (hf : findX xs (stepT x.TSN (-1)) = some y) (he : y.End = false) : startF xs (n + 1) x = startF xs n y := by simp [startF, h, hf, he]
def BackI (xs : List XPiece) (xp : XPiece) (n : Nat) (x : XPiece) : Prop :=
  startF xs n x = startF xs (xs.length + 1) xp ∧ n + offB xp.TSN x = xs.length + 1 ∧ xs.countP (fun z => decide (offB xp.TSN x < offB xp.TSN z)) + offB xp.TSN x ≤ xs.length
theorem BackI.zero (xs : List XPiece) (xp : XPiece) : BackI xs xp (xs.length + 1) xp := ⟨rfl, by rw [(off_self xp).1], by rw [(off_self xp).1]; exact List.countP_le_length⟩
theorem BackI.pos {xs : List XPiece} {xp : XPiece} {n : Nat} {x : XPiece} (h : BackI xs xp n x) : ∃ m, n = m + 1 := by
  obtain ⟨_, h2, h3⟩ := h
  exact ⟨n - 1, by omega⟩
theorem reasmStart_spec {w0 w : World} {B : List Ent} {bb m : Nat} {held : Int} {ps : List GPiece} {xs : List XPiece} {N : Nat → Prop} {p : GPiece} {xp : XPiece} (H : Go.Wf.Own none_ w0 w (Var bb 162 [.map (some m), .int .i64 held] :: MapB ti23 ti60 m (kp ps) :: rPieces.ent N ps xs :: B))
    (hp : ∀ W, Go.Wf.Own none_ w0 W B → ∃ S, rPiece.R W S p xp) (hl : xs.length < 100000) : C_reasm_Bench_start (some (bx bb)) p w fun r w' => Lk p xp ps xs r (startF xs (xs.length + 1) xp) ∧ Go.Wf.Own none_ w0 w' (Var bb 162 [.map (some m), .int .i64 held] :: MapB ti23 ti60 m (kp ps) :: rPieces.ent N ps xs :: B) := by
  refine E_reasm_Bench_start _ _ _ _ ?_
  refine H.new fun b2 w1 H _ => ?_
  refine H.new fun b3 w2 H _ => ?_
  refine LI.loop (X := Unit) (I := fun n _ w' => ∃ (g : GPiece) (x : XPiece) (c : List Value), c.length = 7 ∧ Lk p xp ps xs g x ∧ BackI xs xp n x ∧ Go.Wf.Own none_ w0 w' (Var b3 60 c :: Var b2 60 (wrT ti60 g) :: Var bb 162 [.map (some m), .int .i64 held] :: MapB ti23 ti60 m (kp ps) :: rPieces.ent N ps xs :: B)) (xs.length + 1) ⟨p, xp, _, rfl, .inl ⟨rfl, rfl⟩, BackI.zero _ _, H⟩ ?_
  rintro n ⟨⟩ w3 ⟨g, x, c, hc, hLk, hB, H⟩ d
  obtain ⟨c0, c1, c2, c3, c4, c5, c6, rfl⟩ : ∃ c0 c1 c2 c3 c4 c5 c6, c = [c0, c1, c2, c3, c4, c5, c6] := by
    rcases c with _ | ⟨c0, _ | ⟨c1, _ | ⟨c2, _ | ⟨c3, _ | ⟨c4, _ | ⟨c5, _ | ⟨c6, _ | ⟨c7, c⟩⟩⟩⟩⟩⟩⟩⟩ <;> simp at hc
    exact ⟨_, _, _, _, _, _, _, rfl⟩
  obtain ⟨n, rfl⟩ := hB.pos
  obtain ⟨S, hp1⟩ := hp _ H.tail.tail.tail.tail.tail
  have ht : rPieces.R w3 N ps xs := H.hold.at 4 rfl
  obtain ⟨S1, hx1⟩ := Lk.get hLk hp1 ht
  have hq := piece_tsn hx1
  replace H : Go.Wf.Own _ _ _ (_ :: Var b2 _ [.int .u32 g.TSN, .int .u16 g.Stream, .int .u16 g.Seq, .bool g.Begin, .bool g.End, .bool g.Unordered, .slice g.Text.a g.Text.n g.Text.c] :: _) := H
  refine H.ld 1 3 rfl rfl rfl (p := g.Begin) ?_
  refine ifK.mk (fun q1 => ?_) (fun q1 => ?_)
  · skip
    refine ⟨_, rfl, ?_⟩
    have HN := H.nest
    refine HN.ld 2 0 rfl rfl rfl (p := (some m)) ?_
    refine HN.ld 1 0 rfl rfl rfl (p := g.TSN) ?_
    refine HN.val _ (fun W hW H => serialStep_spec) fun N th HN => ?_
    refine glook160 HN 3 rfl _ fun v5 e_v5 => ?_
    refine HN.newb fun b4 th2 hb_b4 HN => ?_
    refine HN.fin fun w7 hx_w7 H => ?_
    have hX := hx_w7
    have hlk := look_rel ht e_v5
    rw [hq.1] at hlk
    refine H.stx 0 0 rfl rfl rfl fun w8 hs_w8 H => ?_
    have hX := hs_w8 _ hX hb_b4
    replace H : Go.Wf.Own _ _ _ (Var b4 _ [.int .u32 v5.1.TSN, .int .u16 v5.1.Stream, .int .u16 v5.1.Seq, .bool v5.1.Begin, .bool v5.1.End, .bool v5.1.Unordered, .slice v5.1.Text.a v5.1.Text.n v5.1.Text.c] :: _) := H
    refine ifK.mk (fun q2 => ?_) (fun q2 => ?_)
    · skip
      refine H.ld 2 0 rfl rfl rfl (p := g) ?_
      refine H.st 1 0 rfl rfl rfl fun w9 H => ?_
      replace H : Go.Wf.Own _ _ _ (_ :: Var b3 _ [.int .u32 g.TSN, .int .u16 g.Stream, .int .u16 g.Seq, .bool g.Begin, .bool g.End, .bool g.Unordered, .slice g.Text.a g.Text.n g.Text.c] :: _) := H
      refine H.ld 1 0 rfl rfl rfl (p := g) ?_
      have H := H.tail
      have H := (H.drop 0).drop 0
      have hf : findX xs (stepT x.TSN (-1)) = none := by
        rcases hlk with ⟨_, h⟩ | ⟨y, i, h, _⟩
        · exact h
        · rw [h] at q2; cases q2
      have q1 : x.Begin = false := by rw [← hq.2.1]; simpa using q1
      refine ⟨?_, H⟩
      have := hB.1
      rw [startF_n q1 hf] at this
      rw [← this]; exact hLk
    · skip
      obtain ⟨y, i, hk1, hk2, hk3, hk4⟩ : ∃ y i, v5.2 = true ∧ findX xs (stepT x.TSN (-1)) = some y ∧ ps[i]? = some v5.1 ∧ xs[i]? = some y := by
        rcases hlk with ⟨h, _⟩ | h
        · rw [h] at q2; cases q2
        · exact h
      have q1 : x.Begin = false := by rw [← hq.2.1]; simpa using q1
      obtain ⟨S2, hx2⟩ := Lk.get (.inr ⟨i, hk3, hk4⟩ : Lk p xp ps xs v5.1 y) hp1 ht
      have hq2 := piece_tsn hx2
      refine H.ld 0 4 rfl rfl rfl (p := v5.1.End) ?_
      refine ifK.mk (fun q3 => ?_) (fun q3 => ?_)
      · skip
        refine H.ld 2 0 rfl rfl rfl (p := g) ?_
        refine H.st 1 0 rfl rfl rfl fun w10 H => ?_
        replace H : Go.Wf.Own _ _ _ (_ :: Var b3 _ [.int .u32 g.TSN, .int .u16 g.Stream, .int .u16 g.Seq, .bool g.Begin, .bool g.End, .bool g.Unordered, .slice g.Text.a g.Text.n g.Text.c] :: _) := H
        refine H.ld 1 0 rfl rfl rfl (p := g) ?_
        have H := H.tail
        have H := (H.drop 0).drop 0
        refine ⟨?_, H⟩
        have := hB.1
        rw [startF_e q1 hk2 (by rw [← hq2.2.2.1]; exact q3)] at this
        rw [← this]; exact hLk
      · skip
        refine H.ld 0 0 rfl rfl rfl (p := v5.1) ?_
        refine H.st 2 0 rfl rfl rfl fun w11 H => ?_
        replace H : Go.Wf.Own _ _ _ (_ :: _ :: Var b2 _ [.int .u32 v5.1.TSN, .int .u16 v5.1.Stream, .int .u16 v5.1.Seq, .bool v5.1.Begin, .bool v5.1.End, .bool v5.1.Unordered, .slice v5.1.Text.a v5.1.Text.n v5.1.Text.c] :: _) := H
        have H := H.tail
        refine LI.next (m := n) (by omega) ⟨v5.1, y, _, ?_, .inr ⟨i, hk3, hk4⟩, ?_, H⟩
        · rfl
        have h1 := hB.1
        rw [startF_s q1 hk2 (by rw [← hq2.2.2.1]; exact q3)] at h1
        obtain ⟨h2, h3⟩ := back_step rfl hB.2.2 hk2 (by omega)
        have h4 := hB.2.1
        exact ⟨h1, by omega, by rw [h2]; exact h3⟩
  · skip
    refine H.ld 1 0 rfl rfl rfl (p := g) ?_
    refine H.st 0 0 rfl rfl rfl fun w12 H => ?_
    replace H : Go.Wf.Own _ _ _ (Var b3 _ [.int .u32 g.TSN, .int .u16 g.Stream, .int .u16 g.Seq, .bool g.Begin, .bool g.End, .bool g.Unordered, .slice g.Text.a g.Text.n g.Text.c] :: _) := H
    refine H.ld 0 0 rfl rfl rfl (p := g) ?_
    have H := (H.drop 0).drop 0
    refine ⟨?_, H⟩
    have q1 : x.Begin = true := by rw [← hq.2.1]; simpa using q1
    have := hB.1
    rw [startF_b q1] at this
    rw [← this]; exact hLk
end Go.Wf2

namespace Go.Wf2
open Go Go.Wf Go.Proofs
set_option linter.unusedVariables false
set_option linter.deprecated false
set_option maxRecDepth 4000
theorem restF_b {xs : List XPiece} {n : Nat} {x : XPiece} (h : x.End = true) : restF xs (n + 1) x = [] := by simp [restF, h]
theorem restF_n {xs : List XPiece} {n : Nat} {x : XPiece} (h : x.End = false) (hf : findX xs (stepT x.TSN 1) = none) : restF xs (n + 1) x = [] := by simp [restF, h, hf]
theorem restF_e {xs : List XPiece} {n : Nat} {x y : XPiece} (h : x.End = false) (hf : findX xs (stepT x.TSN 1) = some y) (he : y.Begin = true) : restF xs (n + 1) x = [] := by simp [restF, h, hf, he]
theorem restF_s {xs : List XPiece} {n : Nat} {x y : XPiece} (h : x.End = false) (hf : findX xs (stepT x.TSN 1) = some y) (he : y.Begin = false) : restF xs (n + 1) x = y :: restF xs n y := by simp [restF, h, hf, he]
def ForeI (xs : List XPiece) (x0 : XPiece) (n : Nat) (x : XPiece) : Prop :=
  n + offA x0.TSN x = xs.length + 1 ∧ xs.countP (fun z => decide (offA x0.TSN x < offA x0.TSN z)) + offA x0.TSN x ≤ xs.length
theorem ForeI.zero (xs : List XPiece) (x0 : XPiece) : ForeI xs x0 (xs.length + 1) x0 := ⟨by rw [(off_self x0).2], by rw [(off_self x0).2]; exact List.countP_le_length⟩
theorem ForeI.pos {xs : List XPiece} {xp : XPiece} {n : Nat} {x : XPiece} (h : ForeI xs xp n x) : ∃ m, n = m + 1 := by
  obtain ⟨h2, h3⟩ := h
  exact ⟨n - 1, by omega⟩
theorem reasmPart_spec {w0 w : World} {B : List Ent} {bb m : Nat} {held : Int} {ps : List GPiece} {xs : List XPiece} {N : Nat → Prop} {p : GPiece} {xp : XPiece} (H : Go.Wf.Own none_ w0 w (Var bb 162 [.map (some m), .int .i64 held] :: MapB ti23 ti60 m (kp ps) :: rPieces.ent N ps xs :: B))
    (hp : ∀ W, Go.Wf.Own none_ w0 W B → ∃ S, rPiece.R W S p xp) (hl : xs.length < 100000) : C_reasm_Bench_part (some (bx bb)) p w fun r w' => ∃ gs, All2 (Lk p xp ps xs) gs (partX xs xp) ∧ gs.length ≤ 100001 ∧ Go.Wf.Own none_ w0 w' (RowT ti60 60 7 r gs :: Var bb 162 [.map (some m), .int .i64 held] :: MapB ti23 ti60 m (kp ps) :: rPieces.ent N ps xs :: B) := by
  refine E_reasm_Bench_part _ _ _ _ ?_
  refine H.new fun b2 w1 H _ => ?_
  refine H.ld 0 0 rfl rfl rfl (p := p) ?_
  refine C_reasm_Bench_start.mono (reasmStart_spec (((H.front 3 rfl).front 3 rfl).front 3 rfl) (fun W HW => hp W HW.tail) hl) fun v2 w2 h_v2 => ?_
  obtain ⟨hLk0, H⟩ := h_v2
  have H := H.front 3 rfl
  generalize hx0 : startF xs (xs.length + 1) xp = x0 at hLk0
  refine H.st 0 0 rfl rfl rfl fun w3 H => ?_
  replace H : Go.Wf.Own _ _ _ (Var b2 _ [.int .u32 v2.TSN, .int .u16 v2.Stream, .int .u16 v2.Seq, .bool v2.Begin, .bool v2.End, .bool v2.Unordered, .slice v2.Text.a v2.Text.n v2.Text.c] :: _) := H
  refine H.ld 0 0 rfl rfl rfl (p := v2) ?_
  refine H.new fun b3 w4 H _ => ?_
  have H := H.rowT 0 ok60 [v2] rfl rfl (by simp [Go.maxLen])
  refine LI.loop (X := Sl × Unit) (I := fun n s w' => ∃ (g : GPiece) (x : XPiece) (gs : List GPiece) (ys : List XPiece), All2 (Lk p xp ps xs) gs ys ∧ Lk p xp ps xs g x ∧ gs.length = offA x0.TSN x + 1 ∧ ys ++ restF xs n x = x0 :: restF xs (xs.length + 1) x0 ∧ ForeI xs x0 n x ∧ Go.Wf.Own none_ w0 w' (RowT ti60 60 7 s.1 gs :: Var b2 60 (wrT ti60 g) :: Var bb 162 [.map (some m), .int .i64 held] :: MapB ti23 ti60 m (kp ps) :: rPieces.ent N ps xs :: B)) (xs.length + 1) ⟨v2, x0, [v2], [x0], ⟨hLk0, trivial⟩, hLk0, by rw [(off_self x0).2]; rfl, rfl, ForeI.zero _ _, H⟩ ?_
  rintro n ⟨out, ⟨⟩⟩ w5 ⟨g, x, gs, ys, hA, hLk, hgl, hR, hB, H⟩ d
  obtain ⟨n, rfl⟩ := hB.pos
  obtain ⟨S, hp1⟩ := hp _ H.tail.tail.tail.tail.tail
  have ht : rPieces.R w5 N ps xs := H.hold.at 4 rfl
  obtain ⟨S1, hx1⟩ := Lk.get hLk hp1 ht
  have hq := piece_tsn hx1
  have hB1 := hB.1
  have hB2 := hB.2
  replace H : Go.Wf.Own _ _ _ (_ :: Var b2 _ [.int .u32 g.TSN, .int .u16 g.Stream, .int .u16 g.Seq, .bool g.Begin, .bool g.End, .bool g.Unordered, .slice g.Text.a g.Text.n g.Text.c] :: _) := H
  refine H.ld 1 4 rfl rfl rfl (p := g.End) ?_
  refine ifK.mk (fun q1 => ?_) (fun q1 => ?_)
  · skip
    refine ⟨_, rfl, ?_⟩
    have HN := H.nest
    refine HN.ld 2 0 rfl rfl rfl (p := (some m)) ?_
    refine HN.ld 1 0 rfl rfl rfl (p := g.TSN) ?_
    refine HN.val _ (fun W hW H => serialStep_spec) fun N th HN => ?_
    refine glook160 HN 3 rfl _ fun v8 e_v8 => ?_
    refine HN.newb fun b4 th2 hb_b4 HN => ?_
    refine HN.fin fun w9 hx_w9 H => ?_
    have hX := hx_w9
    have hlk := look_rel ht e_v8
    rw [hq.1] at hlk
    refine H.stx 0 0 rfl rfl rfl fun w10 hs_w10 H => ?_
    have hX := hs_w10 _ hX hb_b4
    replace H : Go.Wf.Own _ _ _ (Var b4 _ [.int .u32 v8.1.TSN, .int .u16 v8.1.Stream, .int .u16 v8.1.Seq, .bool v8.1.Begin, .bool v8.1.End, .bool v8.1.Unordered, .slice v8.1.Text.a v8.1.Text.n v8.1.Text.c] :: _) := H
    refine ifK.mk (fun q2 => ?_) (fun q2 => ?_)
    · skip
      have hf : findX xs (stepT x.TSN 1) = none := by
        rcases hlk with ⟨_, h⟩ | ⟨y, i, h, _⟩
        · exact h
        · rw [h] at q2; cases q2
      have q1 : x.End = false := by rw [← hq.2.2.1]; simpa using q1
      rw [restF_n q1 hf, List.append_nil] at hR
      refine ⟨gs, by rw [partX, hx0, ← hR]; exact hA, by omega, ?_⟩
      exact (H.drop 0).drop 1
    · skip
      obtain ⟨y, i, hk1, hk2, hk3, hk4⟩ : ∃ (y : XPiece) (i : Nat), v8.2 = true ∧ findX xs (stepT x.TSN 1) = some y ∧ ps[i]? = some v8.1 ∧ xs[i]? = some y := by
        rcases hlk with ⟨h, _⟩ | h
        · rw [h] at q2; cases q2
        · exact h
      have q1 : x.End = false := by rw [← hq.2.2.1]; simpa using q1
      have hLk2 : Lk p xp ps xs v8.1 y := .inr ⟨i, hk3, hk4⟩
      obtain ⟨S2, hx2⟩ := Lk.get hLk2 hp1 ht
      have hq2 := piece_tsn hx2
      refine H.ld 0 3 rfl rfl rfl (p := v8.1.Begin) ?_
      refine ifK.mk (fun q3 => ?_) (fun q3 => ?_)
      · skip
        rw [restF_e q1 hk2 (by rw [← hq2.2.1]; exact q3), List.append_nil] at hR
        refine ⟨gs, by rw [partX, hx0, ← hR]; exact hA, by omega, ?_⟩
        exact (H.drop 0).drop 1
      · skip
        refine H.ld 0 0 rfl rfl rfl (p := v8.1) ?_
        refine H.st 2 0 rfl rfl rfl fun w11 H => ?_
        replace H : Go.Wf.Own _ _ _ (_ :: _ :: Var b2 _ [.int .u32 v8.1.TSN, .int .u16 v8.1.Stream, .int .u16 v8.1.Seq, .bool v8.1.Begin, .bool v8.1.End, .bool v8.1.Unordered, .slice v8.1.Text.a v8.1.Text.n v8.1.Text.c] :: _) := H
        refine H.ld 2 0 rfl rfl rfl (p := v8.1) ?_
        refine H.new fun b5 w12 H _ => ?_
        refine H.appendT 2 ok60 el51 (s := out) (x := (⟨some (bx b5), 1, 1⟩ : Sl)) (fun s => s) (fun _ => rfl) rfl (H.varSl 0 [v8.1] rfl rfl) (by simp; omega) fun v12 w13 H => ?_
        replace H : Go.Wf.Own _ _ _ (_ :: _ :: RowT _ _ _ v12 _ :: _) := H
        obtain ⟨h2, h3⟩ := fore_step rfl hB.2 hk2 (by omega)
        rw [restF_s q1 hk2 (by rw [← hq2.2.1]; exact q3)] at hR
        have H := (H.drop 0).drop 0
        refine LI.next (m := n) (by omega) ⟨v8.1, y, gs ++ [v8.1], ys ++ [y], All2.snoc hA hLk2, hLk2, by simp; omega, by rw [← hR]; simp, ⟨by omega, by rw [h2]; exact h3⟩, H⟩
  · skip
    have q1 : x.End = true := by rw [← hq.2.2.1]; simpa using q1
    rw [restF_b q1, List.append_nil] at hR
    refine ⟨gs, by rw [partX, hx0, ← hR]; exact hA, by omega, ?_⟩
    exact H.drop 1
end Go.Wf2

namespace Go.Wf2
open Go Go.Wf Go.Proofs
set_option linter.unusedVariables false
set_option linter.deprecated false
set_option maxRecDepth 4000
structure XMessage where
  Stream : Int
  Unordered : Bool
  Text : List Int
deriving DecidableEq
def rMessage : Rdr GMessage XMessage where
  R := fun w S g x => rBytes.R w S g.Text x.Text ∧ g.Stream = x.Stream ∧ g.Unordered = x.Unordered
  fr := fun h hr => ⟨rBytes.fr h hr.1, hr.2⟩
  mono := fun h hr => ⟨rBytes.mono h hr.1, hr.2⟩
  lim := fun hr => ⟨rBytes.lim hr.1, hr.2⟩
def xm0 : XMessage := ⟨0, false, []⟩
theorem rm0 (w : World) (S : Nat → Prop) : rMessage.R w S ⟨0, false, ⟨none, 0, 0⟩⟩ xm0 := ⟨SlT.nil ti5 w S, rfl, rfl⟩
/-- Pieces that read, each over memory of its own. -/
abbrev PcR (w : World) (gs : List GPiece) (xs : List XPiece) : Prop := All2 (fun g x => ∃ S, rPiece.R w S g x) gs xs
theorem PcR.ext {w w' : World} {gs : List GPiece} {xs : List XPiece} (h : PcR w gs xs) (hx : Ext w w') : PcR w' gs xs := All2.imp (fun _ _ ⟨S, h⟩ => ⟨S, rPiece.ext h hx⟩) h
theorem within_spec {n a b : Int} {w : World} : C_frag_within n a b w (Val w (decide (a ≤ n) && decide (n ≤ b))) := by
  refine E_frag_within _ _ _ _ _ ?_
  have H := Own.start none_ w
  refine ifK.mk (fun q1 => ?_) (fun q1 => ?_)
  · skip
    have q1 := of_decide_eq_true q1
    exact ⟨H.step, by simp [q1]⟩
  · skip
    have q1 := of_decide_eq_false q1
    exact ⟨H.step, by simp [q1]⟩
def goodX (x : XMessage) : Bool := (decide (0 ≤ x.Stream) && decide (x.Stream ≤ 7)) && (decide (1 ≤ (x.Text.length : Int)) && decide ((x.Text.length : Int) ≤ 400))
theorem good_spec {m : GMessage} {w : World} {S : Nat → Prop} {x : XMessage} (hx : rMessage.R w S m x) : C_frag_Good m w (Val w (goodX x)) := by
  refine E_frag_Good _ _ _ ?_
  have h1 := hx.1.1
  have h2 := hx.2.1
  have H := Own.start none_ w
  refine H.new fun b w1 H _ => ?_
  refine H.ld 0 0 rfl rfl rfl (p := m.Stream) ?_
  refine C_frag_within.mono (within_spec) fun v2 w2 h_v2 => ?_
  obtain ⟨hx_w2, rfl⟩ := h_v2
  have H := H.ext hx_w2
  refine ifK.mk (fun q1 => ?_) (fun q1 => ?_)
  · skip
    refine H.ld 0 2 rfl rfl rfl (p := m.Text) ?_
    refine C_frag_within.mono (within_spec) fun v4 w3 h_v4 => ?_
    obtain ⟨hx_w3, rfl⟩ := h_v4
    have H := H.ext hx_w3
    refine ⟨H.step, ?_⟩
    rw [h2] at q1
    rw [h1, goodX, q1, Bool.true_and]
  · skip
    refine ⟨H.step, ?_⟩
    rw [h2] at q1
    rw [goodX, q1]; rfl
def followsX (p b : XPiece) : Bool := decide (p.TSN = stepT b.TSN 1) && (decide (p.Stream = b.Stream) && (decide (p.Seq = b.Seq) && decide (p.Unordered = b.Unordered)))
theorem follows_spec {p before : GPiece} {w : World} {S S' : Nat → Prop} {x y : XPiece} (hx : rPiece.R w S p x) (hy : rPiece.R w S' before y) : C_frag_follows p before w (Val w (followsX x y)) := by
  refine E_frag_follows _ _ _ _ ?_
  obtain ⟨x1, _, _, x4, x5, x6⟩ := piece_tsn hx
  obtain ⟨y1, _, _, y4, y5, y6⟩ := piece_tsn hy
  have H := Own.start none_ w
  refine H.new fun b w1 H _ => ?_
  refine H.new fun b2 w2 H _ => ?_
  have HN := H.nest
  refine HN.ld 1 0 rfl rfl rfl (p := p.TSN) ?_
  refine HN.ld 0 0 rfl rfl rfl (p := before.TSN) ?_
  refine HN.val _ (fun W hW H => serialStep_spec) fun N th HN => ?_
  refine ifK.mk (fun q1 => ?_) (fun q1 => ?_)
  · skip
    have q1 := by simpa using q1
    refine HN.ld 1 1 rfl rfl rfl (p := p.Stream) ?_
    refine HN.ld 0 1 rfl rfl rfl (p := before.Stream) ?_
    refine ifK.mk (fun q2 => ?_) (fun q2 => ?_)
    · skip
      have q2 := by simpa using q2
      refine HN.ld 1 2 rfl rfl rfl (p := p.Seq) ?_
      refine HN.ld 0 2 rfl rfl rfl (p := before.Seq) ?_
      refine ifK.mk (fun q3 => ?_) (fun q3 => ?_)
      · skip
        have q3 := by simpa using q3
        refine HN.ld 1 5 rfl rfl rfl (p := p.Unordered) ?_
        refine HN.ld 0 5 rfl rfl rfl (p := before.Unordered) ?_
        refine HN.fin fun w4 hx_w4 H => ?_
        have hX := hx_w4
        refine ⟨H.step, ?_⟩
        have q1 : x.TSN = stepT y.TSN 1 := by rw [← x1, ← y1]; simpa using q1
        have q2 : x.Stream = y.Stream := by rw [← x4, ← y4]; simpa using q2
        have q3 : x.Seq = y.Seq := by rw [← x5, ← y5]; simpa using q3
        simp only [followsX, q1, q2, q3, decide_true, Bool.true_and, ← x6, ← y6]
        cases p.Unordered <;> cases before.Unordered <;> rfl
      · skip
        have q3 := by simpa using q3
        refine HN.fin fun w5 hx_w5 H => ?_
        have hX := hx_w5
        refine ⟨H.step, ?_⟩
        have q3 : ¬ x.Seq = y.Seq := by rw [← x5, ← y5]; simpa using q3
        simp [followsX, q3]
    · skip
      have q2 := by simpa using q2
      refine HN.fin fun w6 hx_w6 H => ?_
      have hX := hx_w6
      refine ⟨H.step, ?_⟩
      have q2 : ¬ x.Stream = y.Stream := by rw [← x4, ← y4]; simpa using q2
      simp [followsX, q2]
  · skip
    have q1 := by simpa using q1
    refine HN.fin fun w7 hx_w7 H => ?_
    have hX := hx_w7
    refine ⟨H.step, ?_⟩
    have q1 : ¬ x.TSN = stepT y.TSN 1 := by rw [← x1, ← y1]; simpa using q1
    simp [followsX, q1]
def joinedAt (xs : List XPiece) (i : Nat) : Bool := match xs[i]? with
  | none => false
  | some x => (x.Begin == decide (i = 0)) && ((x.End == decide (i + 1 = xs.length)) && ((decide (1 ≤ (x.Text.length : Int)) && decide ((x.Text.length : Int) ≤ 64)) && (decide (i = 0) || match xs[i - 1]? with | none => false | some y => followsX x y)))
def joinedX (xs : List XPiece) : Bool := decide (0 < xs.length) && (List.range xs.length).all (joinedAt xs)
theorem joinedX_no {xs : List XPiece} {i : Nat} (hi : i < xs.length) (h : joinedAt xs i = false) : joinedX xs = false := by
  have : (List.range xs.length).all (joinedAt xs) = false := by
    rw [List.all_eq_false]
    exact ⟨i, List.mem_range.2 hi, by simp [h]⟩
  simp [joinedX, this]
theorem joinedX_yes {xs : List XPiece} (h : ∀ i, i < xs.length → joinedAt xs i = true) : joinedX xs = decide (0 < xs.length) := by
  have : (List.range xs.length).all (joinedAt xs) = true := by
    rw [List.all_eq_true]
    intro i hi
    exact h i (List.mem_range.1 hi)
  simp [joinedX, this]
theorem joined_spec {list : Sl} {w : World} {S : Nat → Prop} {gs : List GPiece} {xs : List XPiece} (hr : SlT ti60 w S list gs) (hx : PcR w gs xs) (hl : gs.length ≤ 1000000) : C_frag_joined list w (Val w (joinedX xs)) := by
  refine E_frag_joined _ _ _ ?_
  have hlen := hr.len
  have hlen2 := hx.len
  have H := Own.start none_ w
  refine RInv0.loop (n := gs.length) (I := fun i w' => (∀ j, j < i → joinedAt xs j = true) ∧ Go.Wf.Own none_ w w' []) (⟨by simp, H⟩) ?_
  rintro i  w1 hi hI d
  obtain ⟨hJ, H⟩ := hI
  dsimp only
  refine ifK.mk (fun hc1 => ?_) (fun hc1 => ?_)
  · skip
    have hc1 := of_decide_eq_true hc1
    refine SlT.getN ok60 (SlT.ext hr ok60 H.step) (by omega) fun v hv => ?_
    obtain ⟨x, hxi, S1, r1⟩ := All2.at? hx hv
    obtain ⟨x1, x2, x3, _⟩ := piece_tsn r1
    have x7 := r1.1.1
    refine H.new fun b w2 H _ => ?_
    refine H.st 0 0 rfl rfl rfl fun w3 H => ?_
    replace H : Go.Wf.Own _ _ _ (Var b _ [.int .u32 v.TSN, .int .u16 v.Stream, .int .u16 v.Seq, .bool v.Begin, .bool v.End, .bool v.Unordered, .slice v.Text.a v.Text.n v.Text.c] :: _) := H
    have HN := H.nest
    refine HN.ld 0 3 rfl rfl rfl (p := v.Begin) ?_
    refine ifK.mk (fun q1 => ?_) (fun q1 => ?_)
    · skip
      have q1 := by simpa using q1
      refine HN.fin fun w4 hx_w4 H => ?_
      have hX := hx_w4
      refine ⟨H.step, (joinedX_no (i := i) (by omega) ?_).symm⟩
      have : (x.Begin == decide (i = 0)) = false := by
        rw [← x2]
        have e : ((i : Int) == 0) = decide (i = 0) := by rw [Bool.eq_iff_iff]; simp
        rw [← e]; simpa using q1
      simp [joinedAt, hxi, this]
    · skip
      have q1 := by simpa using q1
      have k1 : (x.Begin == decide (i = 0)) = true := by
        rw [← x2]
        have e : ((i : Int) == 0) = decide (i = 0) := by rw [Bool.eq_iff_iff]; simp
        rw [← e]; simpa using q1
      have e2 : ((i : Int) == IntKind.i64.wrap ((list.n : Int) - 1)) = decide (i + 1 = xs.length) := by
        rw [wrap64 (by omega) (by omega), Bool.eq_iff_iff]; simp; omega
      refine HN.ld 0 4 rfl rfl rfl (p := v.End) ?_
      refine ifK.mk (fun q2 => ?_) (fun q2 => ?_)
      · skip
        have q2 := by simpa using q2
        refine HN.fin fun w5 hx_w5 H => ?_
        have hX := hx_w5
        refine ⟨H.step, (joinedX_no (i := i) (by omega) ?_).symm⟩
        have : (x.End == decide (i + 1 = xs.length)) = false := by
          rw [← x3, ← e2]; simpa using q2
        simp [joinedAt, hxi, this]
      · skip
        have q2 := by simpa using q2
        have k2 : (x.End == decide (i + 1 = xs.length)) = true := by
          rw [← x3, ← e2]; simpa using q2
        refine HN.ld 0 6 rfl rfl rfl (p := v.Text) ?_
        refine HN.val _ (fun W hW H => within_spec) fun N th HN => ?_
        refine ifK.mk (fun q3 => ?_) (fun q3 => ?_)
        · skip
          refine HN.fin fun w7 hx_w7 H => ?_
          have hX := hx_w7
          refine ⟨H.step, (joinedX_no (i := i) (by omega) ?_).symm⟩
          rw [x7] at q3
          have : (decide (1 ≤ (x.Text.length : Int)) && decide ((x.Text.length : Int) ≤ 64)) = false := by rw [Bool.not_eq_true'] at q3; exact q3
          rw [joinedAt, hxi]
          simp only [this, Bool.false_and, Bool.and_false]
        · skip
          have k3 : (decide (1 ≤ (x.Text.length : Int)) && decide ((x.Text.length : Int) ≤ 64)) = true := by rw [x7] at q3; simpa using q3
          refine ifK.mk (fun q4 => ?_) (fun q4 => ?_)
          · skip
            have q4 := of_decide_eq_true q4
            refine HN.ld 0 0 rfl rfl rfl (p := v) ?_
            refine SlT.ggetNat (i := i - 1) ok60 HN (SlT.ext hr ok60 (Ext.trans H.step (Ext.refl _))) (by rw [wrap64 (by omega) (by omega)]; omega) (by omega) fun v7 hv7 => ?_
            refine HN.fin fun w8 hx_w8 H => ?_
            have hX := hx_w8
            obtain ⟨y, hyi, S2, r2⟩ := All2.at? hx hv7
            refine C_frag_follows.mono (follows_spec (rPiece.ext r1 H.step) (rPiece.ext r2 H.step)) fun v8 w9 h_v8 => ?_
            obtain ⟨hx_w9, rfl⟩ := h_v8
            have H := H.ext hx_w9
            have hX := hX.trans hx_w9
            refine ifK.mk (fun q5 => ?_) (fun q5 => ?_)
            · skip
              refine ⟨H.step, (joinedX_no (i := i) (by omega) ?_).symm⟩
              have q5 : followsX x y = false := by simpa using q5
              rw [joinedAt, hxi]
              simp only [hyi, q5, decide_eq_false (show ¬ i = 0 by omega), Bool.or_false, Bool.and_false]
            · skip
              have q5 : followsX x y = true := by simpa using q5
              refine RInv0.next (by omega) (by omega) ⟨fun j hj => ?_, H.drop 0⟩
              by_cases hji : j = i
              · subst hji
                rw [joinedAt, hxi]
                simp only [hyi, q5, k1, k2, k3, Bool.or_true, Bool.and_true]
              · exact hJ j (by omega)
          · skip
            have q4 := of_decide_eq_false q4
            refine HN.fin fun w10 hx_w10 H => ?_
            have hX := hx_w10
            refine RInv0.next (by omega) (by omega) ⟨fun j hj => ?_, H.drop 0⟩
            by_cases hji : j = i
            · subst hji
              rw [joinedAt, hxi]
              have : j = 0 := by omega
              simp only [k1, k2, k3, Bool.true_and]
              simp [this]
            · exact hJ j (by omega)
  · skip
    have hc1 := of_decide_eq_false hc1
    refine ⟨H.step, ?_⟩
    rw [joinedX_yes (fun j hj => hJ j (by omega)), Bool.eq_iff_iff]
    simp; omega
end Go.Wf2

namespace Go.Wf2
open Go Go.Wf Go.Proofs
set_option linter.unusedVariables false
set_option linter.deprecated false
set_option maxRecDepth 4000
def textX (xs : List XPiece) : List Int := xs.flatMap (·.Text)
theorem textX_snoc (xs : List XPiece) (x : XPiece) : textX (xs ++ [x]) = textX xs ++ x.Text := by simp [textX]
theorem textX_le {xs : List XPiece} {n : Nat} (h : ∀ (i : Nat) x, xs[i]? = some x → x.Text.length ≤ n) : (textX xs).length ≤ xs.length * n := by
  induction xs with
  | nil => simp [textX]
  | cons x xs ih =>
    have h1 := h 0 x rfl
    have h2 := ih fun i y hy => h (i + 1) y (by simpa using hy)
    simp only [textX, List.flatMap_cons, List.length_append, List.length_cons] at h2 ⊢
    rw [Nat.add_mul]; omega
def whole0 (xs : List XPiece) : XMessage := ⟨IntKind.i64.wrap ((xs[0]?.map (·.Stream)).getD 0), (xs[0]?.map (·.Unordered)).getD false, textX xs⟩
def wholeX (xs : List XPiece) : XMessage × Int := if joinedX xs then if goodX (whole0 xs) then (whole0 xs, 0) else (xm0, 2) else (xm0, 2)
theorem joined_len {xs : List XPiece} (h : joinedX xs = true) : 0 < xs.length ∧ ∀ (i : Nat) x, xs[i]? = some x → x.Text.length ≤ 64 := by
  simp only [joinedX, Bool.and_eq_true, decide_eq_true_eq, List.all_eq_true, List.mem_range] at h
  refine ⟨h.1, fun i x hx => ?_⟩
  have := h.2 i (List.getElem?_eq_some_iff.1 hx).1
  rw [joinedAt, hx] at this
  simp only [Bool.and_eq_true, decide_eq_true_eq] at this
  omega
theorem whole_spec {list : Sl} {w : World} {S : Nat → Prop} {gs : List GPiece} {xs : List XPiece} (hr : SlT ti60 w S list gs) (hx : PcR w gs xs) (hl : gs.length ≤ 1000000) : C_frag_Whole list w fun r w' => Ext w w' ∧ rMessage.R w' (newB w w') r.1 (wholeX xs).1 ∧ r.2 = errV (wholeX xs).2 := by
  refine E_frag_Whole _ _ _ ?_
  have hlen := hr.len
  have hlen2 := hx.len
  have H := Own.start none_ w
  refine H.new fun b w1 H _ => ?_
  refine C_frag_joined.mono (joined_spec (SlT.ext hr ok60 H.step) (hx.ext H.step) hl) fun v w2 h_v => ?_
  obtain ⟨hx_w2, rfl⟩ := h_v
  have H := H.ext hx_w2
  refine ifK.mk (fun q1 => ?_) (fun q1 => ?_)
  · skip
    refine H.st 0 0 rfl rfl rfl fun w3 H => ?_
    replace H : Go.Wf.Own _ _ _ (Var b _ [.int .i64 0, .bool false, .slice none 0 0] :: _) := H
    refine H.ld 0 0 rfl rfl rfl (p := (⟨0, false, ⟨none, 0, 0⟩⟩ : GMessage)) ?_
    refine ⟨H.step, ?_⟩
    have q1 : joinedX xs = false := by simpa using q1
    simp only [wholeX, q1]
    exact ⟨rm0 _ _, rfl⟩
  · skip
    have q1 : joinedX xs = true := by simpa using q1
    obtain ⟨j1, j2⟩ := joined_len q1
    have g0 : gs[0]? = some gs[0] := List.getElem?_eq_getElem (by omega)
    obtain ⟨x0, hx0, S0, r0⟩ := All2.at? hx g0
    obtain ⟨x1, x2, x3, x4, x5, x6⟩ := piece_tsn r0
    refine ⟨_, GOk.ext _, ?_⟩
    have HN := H.nest
    refine SlT.ggetPart ok60 HN (SlT.ext hr ok60 H.step) (i := 0) rfl g0 1 (J := ti45) (p := gs[0].Stream) rfl ?_
    refine SlT.ggetPart ok60 HN (SlT.ext hr ok60 H.step) (i := 0) rfl g0 5 (J := ti4) (p := gs[0].Unordered) rfl ?_
    refine HN.fin fun w4 hx_w4 H => ?_
    have hX := hx_w4
    refine H.new fun b2 w5 H hx_w5 => ?_
    have hX := hX.trans hx_w5
    refine ⟨hX, ?_⟩
    refine H.st 0 0 rfl rfl rfl fun w6 H => ?_
    replace H : Go.Wf.Own _ _ _ (Var b2 _ [.int .i64 (IntKind.i64.wrap (gs[0].Stream)), .bool (gs[0].Unordered), .slice none 0 0] :: _) := H
    refine RInv0.loop (n := gs.length) (I := fun i w' => ∃ s : Sl, Go.Wf.Own none_ w w' [RowT ti5 5 1 s (textX (xs.take i)), (Var b2 54 [.int .i64 (IntKind.i64.wrap (gs[0].Stream)), .bool (gs[0].Unordered), .slice s.a s.n s.c]), (Var b 54 [.int .i64 0, .bool false, .slice none 0 0])]) (⟨_, (H.nilT ti5 5 1)⟩) ?_
    rintro i  w7 hi hI d
    obtain ⟨s, H⟩ := hI
    dsimp only
    refine ifK.mk (fun hc2 => ?_) (fun hc2 => ?_)
    · skip
      have hc2 := of_decide_eq_true hc2
      refine SlT.getN ok60 (SlT.ext hr ok60 H.step) (by omega) fun v4 hv4 => ?_
      obtain ⟨x, hxi, S1, r1⟩ := All2.at? hx hv4
      have j3 := j2 i x hxi
      have j4 := textX_le (xs := xs.take i) (n := 64) fun j y hy => j2 j y (by rw [List.getElem?_take] at hy; split at hy <;> first | exact hy | cases hy)
      rw [List.length_take_of_le (by omega)] at j4
      refine H.new fun b3 w8 H _ => ?_
      refine H.st 0 0 rfl rfl rfl fun w9 H => ?_
      replace H : Go.Wf.Own _ _ _ (Var b3 _ [.int .u32 v4.TSN, .int .u16 v4.Stream, .int .u16 v4.Seq, .bool v4.Begin, .bool v4.End, .bool v4.Unordered, .slice v4.Text.a v4.Text.n v4.Text.c] :: _) := H
      refine H.ld 2 2 rfl rfl rfl (p := s) ?_
      refine H.ld 0 6 rfl rfl rfl (p := v4.Text) ?_
      refine H.appendT 1 ok5 el52 (s := s) (x := v4.Text) (fun s => s) (fun _ => rfl) rfl (l' := x.Text) (rBytes.ext r1.1 H.step) (by omega) fun v7 w10 H => ?_
      replace H : Go.Wf.Own _ _ _ (_ :: RowT _ _ _ v7 _ :: _) := H
      refine H.st 2 2 rfl rfl rfl fun w11 H => ?_
      replace H : Go.Wf.Own _ _ _ (_ :: _ :: Var b2 _ [.int .i64 (IntKind.i64.wrap (gs[0].Stream)), .bool (gs[0].Unordered), .slice v7.a v7.n v7.c] :: _) := H
      have H := H.drop 0
      refine RInv0.next (by omega) (by omega) ⟨v7, ?_⟩
      rw [take_snoc hxi, textX_snoc]
      exact H
    · skip
      have hc2 := of_decide_eq_false hc2
      have hil : i = gs.length := by omega
      subst hil
      rw [List.take_of_length_le (by omega)] at H
      have hm : rMessage.R w7 (fun k => ∃ a, s.a = some a ∧ a.block = k) ⟨IntKind.i64.wrap gs[0].Stream, gs[0].Unordered, s⟩ (whole0 xs) := ⟨RowT.sl ok5 (H.hold.at 0 rfl), by simp [whole0, hx0, x4], by simp [whole0, hx0, x6]⟩
      refine H.ld 1 0 rfl rfl rfl (p := (⟨(IntKind.i64.wrap (gs[0].Stream)), (gs[0].Unordered), s⟩ : GMessage)) ?_
      refine C_frag_Good.mono (good_spec (rMessage.ext hm (Ext.refl _))) fun v9 w12 h_v9 => ?_
      obtain ⟨hx_w12, rfl⟩ := h_v9
      have H := H.ext hx_w12
      refine ifK.mk (fun q2 => ?_) (fun q2 => ?_)
      · skip
        refine H.st 2 0 rfl rfl rfl fun w13 H => ?_
        replace H : Go.Wf.Own _ _ _ (_ :: _ :: Var b _ [.int .i64 0, .bool false, .slice none 0 0] :: _) := H
        refine H.ld 2 0 rfl rfl rfl (p := (⟨0, false, ⟨none, 0, 0⟩⟩ : GMessage)) ?_
        refine ⟨H.step, ?_⟩
        have q2 : goodX (whole0 xs) = false := by simpa using q2
        simp only [wholeX, q1, q2]
        exact ⟨rm0 _ _, rfl⟩
      · skip
        refine H.ld 1 0 rfl rfl rfl (p := (⟨(IntKind.i64.wrap (gs[0].Stream)), (gs[0].Unordered), s⟩ : GMessage)) ?_
        refine H.st 2 0 rfl rfl rfl fun w14 H => ?_
        replace H : Go.Wf.Own _ _ _ (_ :: _ :: Var b _ [.int .i64 (IntKind.i64.wrap (gs[0].Stream)), .bool (gs[0].Unordered), .slice s.a s.n s.c] :: _) := H
        refine H.ld 2 0 rfl rfl rfl (p := (⟨(IntKind.i64.wrap (gs[0].Stream)), (gs[0].Unordered), s⟩ : GMessage)) ?_
        refine ⟨H.step, ?_⟩
        have q2 : goodX (whole0 xs) = true := by simpa using q2
        simp only [wholeX, q1, q2]
        exact ⟨⟨H.slOf0 ok5 0 rfl, hm.2⟩, rfl⟩
end Go.Wf2

namespace Go.Wf2
open Go Go.Wf Go.Proofs
set_option linter.unusedVariables false
set_option linter.deprecated false
set_option maxRecDepth 4000
def closedX (xs : List XPiece) : Bool := ((xs[0]?.map (·.Begin)).getD false) && ((xs[xs.length - 1]?.map (·.End)).getD false)
def offX (gs ps : List XPiece) : List XPiece := gs.foldl (fun ps g => ps.filter fun q => decide (q.TSN ≠ g.TSN)) ps
def lensX (gs : List XPiece) : Int := (gs.map fun g => (g.Text.length : Int)).sum
structure PutR where
  m : XMessage
  seq : Int
  ok : Bool
  err : Int
  xs : List XPiece
  held : Int
def putX (xs : List XPiece) (held : Int) (x : XPiece) : PutR :=
  if mayX x.Text.length x.Stream (findX xs x.TSN).isSome held ≠ 0 then ⟨xm0, 0, false, mayX x.Text.length x.Stream (findX xs x.TSN).isSome held, xs, held⟩
  else if closedX (partX (xs ++ [x]) x) = false then ⟨xm0, 0, false, 0, xs ++ [x], held + x.Text.length⟩
  else if (wholeX (partX (xs ++ [x]) x)).2 ≠ 0 then ⟨xm0, 0, false, (wholeX (partX (xs ++ [x]) x)).2, offX (partX (xs ++ [x]) x) (xs ++ [x]), held + x.Text.length - lensX (partX (xs ++ [x]) x)⟩
  else ⟨(wholeX (partX (xs ++ [x]) x)).1, ((partX (xs ++ [x]) x)[0]?.map (·.Seq)).getD 0, true, 0, offX (partX (xs ++ [x]) x) (xs ++ [x]), held + x.Text.length - lensX (partX (xs ++ [x]) x)⟩
theorem All2.filter {G X : Type} {R : G → X → Prop} {p : G → Bool} {q : X → Bool} (hpq : ∀ g x, R g x → p g = q x) : ∀ {gs : List G} {xs : List X}, All2 R gs xs → All2 R (gs.filter p) (xs.filter q)
  | [], [], _ => trivial
  | g :: gs, x :: xs, h => by
    have e := hpq _ _ h.1
    have ih := All2.filter hpq h.2
    simp only [List.filter_cons, e]
    split
    · exact ⟨h.1, ih⟩
    · exact ih
  | [], _ :: _, h => h.elim
  | _ :: _, [], h => h.elim
theorem off_rel {R R' : GPiece → XPiece → Prop} (hR : ∀ g x, R g x → g.TSN = x.TSN) (hR' : ∀ g x, R' g x → g.TSN = x.TSN) : ∀ {gs : List GPiece} {ys : List XPiece}, All2 R' gs ys → ∀ {ps : List GPiece} {xs : List XPiece}, All2 R ps xs → All2 R (offG gs ps) (offX ys xs)
  | [], [], _, _, _, h => h
  | g :: gs, y :: ys, h, ps, xs, hp => by
    have e := hR' _ _ h.1
    exact off_rel hR hR' h.2 (All2.filter (fun g x h => by rw [hR _ _ h, e]) hp)
  | [], _ :: _, h, _, _, _ => h.elim
  | _ :: _, [], h, _, _, _ => h.elim
theorem lens_rel {R : GPiece → XPiece → Prop} (hR : ∀ g x, R g x → g.Text.n = x.Text.length) : ∀ {gs : List GPiece} {xs : List XPiece}, All2 R gs xs → lensG gs = lensX xs
  | [], [], _ => rfl
  | g :: gs, x :: xs, h => by
    have := lens_rel hR h.2
    have e := hR _ _ h.1
    simp only [lensG, lensX, List.map_cons, List.sum_cons] at this ⊢
    rw [this, e]
  | [], _ :: _, h => h.elim
  | _ :: _, [], h => h.elim
theorem PcR.closed {w : World} {gs : List GPiece} {xs : List XPiece} (h : PcR w gs xs) : closedG gs = closedX xs := by
  have hl := h.len
  have at' : ∀ (i : Nat), (gs[i]?.map (·.Begin)) = (xs[i]?.map (·.Begin)) ∧ (gs[i]?.map (·.End)) = (xs[i]?.map (·.End)) := by
    intro i
    cases hg : gs[i]? with
    | none =>
      have : xs[i]? = none := by rw [List.getElem?_eq_none_iff] at hg ⊢; omega
      rw [this]; exact ⟨rfl, rfl⟩
    | some g =>
      obtain ⟨x, hx, S, r⟩ := All2.at? h hg
      obtain ⟨_, h2, h3, _⟩ := piece_tsn r
      rw [hx]; simp [h2, h3]
  unfold closedG closedX
  rw [(at' 0).1, (at' _).2, hl]
theorem Lk.all {p : GPiece} {xp : XPiece} {ps : List GPiece} {xs : List XPiece} {W : World} {S N : Nat → Prop} (hp : rPiece.R W S p xp) (ht : rPieces.R W N ps xs) {gs : List GPiece} {ys : List XPiece} (h : All2 (Lk p xp ps xs) gs ys) : PcR W gs ys := All2.imp (fun _ _ h => Lk.get h hp ht) h
theorem find_none_rel {W : World} {N : Nat → Prop} {ps : List GPiece} {xs : List XPiece} (ht : rPieces.R W N ps xs) (t : Int) : (getG (kp ps) t).isSome = (findX xs t).isSome ∧ (findX xs t = none → ps.find? (fun g => decide (g.TSN = t)) = none) := by
  rw [getG_kp]
  rcases find_rel (fun g x h => (piece_tsn h).1) (show All2 (rPiece.R W N) ps xs from ht) t with ⟨h1, h2⟩ | ⟨g, x, i, h1, h2, h3, h4⟩
  · exact ⟨by rw [h1, h2]; rfl, fun _ => h1⟩
  · exact ⟨by rw [h1, h2]; rfl, fun h => by rw [h] at h2; cases h2⟩
theorem reasmPut_spec {w0 w : World} {B : List Ent} {bb m : Nat} {held : Int} {ps : List GPiece} {xs : List XPiece} {N : Nat → Prop} {p : GPiece} {x : XPiece} (H : Go.Wf.Own none_ w0 w (Var bb 162 [.map (some m), .int .i64 held] :: MapB ti23 ti60 m (kp ps) :: rPieces.ent N ps xs :: B))
    (hp : ∀ W, Go.Wf.Own none_ w0 W B → ∃ S, rPiece.R W S p x) (hl : xs.length < 90000) (hx : ∀ (i : Nat) y, xs[i]? = some y → y.Text.length ≤ 64) (h1 : 0 ≤ held) (h2 : held ≤ 2000) :
    C_reasm_Bench_Put (some (bx bb)) p w fun r w' => ∃ ps' N' NM, Go.Wf.Own none_ w0 w' (rMessage.ent NM r.1.M (putX xs held x).m :: Var bb 162 [.map (some m), .int .i64 (putX xs held x).held] :: MapB ti23 ti60 m (kp ps') :: rPieces.ent N' ps' (putX xs held x).xs :: B) ∧ r.1.Seq = (putX xs held x).seq ∧ r.2.1 = (putX xs held x).ok ∧ r.2.2 = errV (putX xs held x).err := by
  refine E_reasm_Bench_Put _ _ _ _ ?_
  refine H.new fun b2 w1 H _ => ?_
  refine H.new fun b3 w2 H _ => ?_
  refine H.ld 1 0 rfl rfl rfl (p := p) ?_
  refine C_reasm_Bench_may.mono (reasmMay_spec ((H.front 3 rfl).front 3 rfl) h1 (by omega)) fun v2 w3 h_v2 => ?_
  obtain ⟨e_v2, H⟩ := h_v2
  have ht : rPieces.R w3 N ps xs := H.hold.at 4 rfl
  obtain ⟨S, hp1⟩ := hp _ H.tail.tail.tail.tail.tail
  have hq := piece_tsn hp1
  have hq7 := hp1.1.1
  rw [(find_none_rel ht _).1, hq.1, hq.2.2.2.1, hq7] at e_v2
  generalize he : mayX x.Text.length x.Stream (findX xs x.TSN).isSome held = e at e_v2
  subst e_v2
  refine ⟨errV_ifc _, ?_⟩
  refine ifK.mk (fun q1 => ?_) (fun q1 => ?_)
  · skip
    refine H.st 2 0 rfl rfl rfl fun w4 H => ?_
    replace H : Go.Wf.Own _ _ _ (_ :: _ :: Var b3 _ [.int .i64 0, .bool false, .slice none 0 0, .int .u16 0] :: _) := H
    refine H.ld 2 0 rfl rfl rfl (p := (⟨⟨0, false, ⟨none, 0, 0⟩⟩, 0⟩ : GDone)) ?_
    have hz : e ≠ 0 := by rw [errV_nil] at q1; simpa using q1
    have H := ((((H.drop 2).drop 2)).pure (e := rMessage.ent none_ ⟨0, false, ⟨none, 0, 0⟩⟩ xm0) (fun _ hk => hk) (rm0 _ _))
    have hP : putX xs held x = ⟨xm0, 0, false, e, xs, held⟩ := by rw [putX, he, if_pos hz]
    rw [hP]
    exact ⟨ps, N, none_, H, rfl, rfl, rfl⟩
  · skip
    have hz : e = 0 := by rw [errV_nil] at q1; simpa using q1
    rw [hz] at he
    have hm : (1 ≤ x.Text.length ∧ x.Text.length ≤ 64) ∧ (findX xs x.TSN) = none ∧ held + x.Text.length ≤ 2000 := by
      unfold mayX at he
      split at he
      · cases he
      · split at he
        · cases he
        · split at he
          · cases he
          · rename_i a1 a2 a3
            refine ⟨by omega, ?_, by omega⟩
            cases hf : findX xs x.TSN with
            | none => rfl
            | some y => rw [hf] at a2; simp at a2
    obtain ⟨hm1, hm2, hm3⟩ := hm
    have ha : ps.find? (fun g => decide (g.TSN = p.TSN)) = none := (find_none_rel ht _).2 (by rw [hq.1]; exact hm2)
    refine H.ld 3 0 rfl rfl rfl (p := p) ?_
    refine C_reasm_Bench_lay.mono (reasmLay_spec (((H.front 4 rfl).front 2 rfl).front 2 rfl) (fun W HW => hp W HW.tail.tail) (by omega) ha h1 (by omega)) fun v4 w5 h_v4 => ?_
    obtain ⟨t, N1, H⟩ := h_v4
    generalize hps : ps ++ [({ p with Text := t } : GPiece)] = ps1 at H
    generalize hxs : xs ++ [x] = xs1 at H
    have hl1 : xs1.length < 100000 := by rw [← hxs]; simp; omega
    refine H.ld 4 0 rfl rfl rfl (p := p) ?_
    refine C_reasm_Bench_part.mono (reasmPart_spec H (fun W HW => hp W HW.tail.tail) hl1) fun v6 w6 h_v6 => ?_
    obtain ⟨gs, hA, hgl, H⟩ := h_v6
    have ht1 : rPieces.R w6 N1 ps1 xs1 := H.hold.at 3 rfl
    obtain ⟨S1, hp2⟩ := hp _ H.tail.tail.tail.tail.tail.tail
    have hP1 : PcR w6 gs (partX xs1 x) := Lk.all hp2 ht1 hA
    have hne : gs ≠ [] := by intro h; have := hA.len; rw [h] at this; simp [partX] at this
    refine C_reasm_closed.mono (reasmClosed_spec (RowT.sl ok60 (H.hold.at 0 rfl)) hne (by omega)) fun v7 w7 h_v7 => ?_
    obtain ⟨hx_w7, rfl⟩ := h_v7
    have H := H.ext hx_w7
    refine ifK.mk (fun q2 => ?_) (fun q2 => ?_)
    · skip
      refine H.st 4 0 rfl rfl rfl fun w8 H => ?_
      replace H : Go.Wf.Own _ _ _ (_ :: _ :: _ :: _ :: Var b3 _ [.int .i64 0, .bool false, .slice none 0 0, .int .u16 0] :: _) := H
      refine H.ld 4 0 rfl rfl rfl (p := (⟨⟨0, false, ⟨none, 0, 0⟩⟩, 0⟩ : GDone)) ?_
      have q2 : closedX (partX (xs ++ [x]) x) = false := by rw [hxs, ← hP1.closed]; simpa using q2
      have H := (((H.drop 0).drop 3).drop 3).pure (e := rMessage.ent none_ ⟨0, false, ⟨none, 0, 0⟩⟩ xm0) (fun _ hk => hk) (rm0 _ _)
      have hP : putX xs held x = ⟨xm0, 0, false, 0, xs ++ [x], held + x.Text.length⟩ := by rw [putX, he, if_neg (by simp), if_pos q2]
      rw [hP]
      exact ⟨ps1, N1, none_, by rw [hxs]; exact H, rfl, rfl, rfl⟩
    · skip
      have q2 : closedX (partX (xs ++ [x]) x) = true := by rw [hxs, ← hP1.closed]; simpa using q2
      have hxn : ∀ (i : Nat) g, gs[i]? = some g → g.Text.n ≤ 1000 := by
        intro i g hg
        obtain ⟨y, hy, hL⟩ := All2.at? hA hg
        obtain ⟨S2, r2⟩ := Lk.get hL hp2 ht1
        have := r2.1.1
        rcases hL with ⟨_, hyx⟩ | ⟨j, _, hj⟩
        · subst hyx; omega
        · rw [← hxs, List.getElem?_append] at hj
          split at hj
          · have := hx j y hj; omega
          · have hj' : y = x := by
              rcases hjj : j - xs.length with _ | k
              · rw [hjj] at hj; simpa using hj.symm
              · rw [hjj] at hj; simp at hj
            subst hj'; omega
      refine C_reasm_Bench_off.mono (reasmOff_spec (gs := gs) ((H.front 2 rfl).front 2 rfl) (fun W HW => ⟨_, RowT.sl ok60 (HW.hold.at 0 rfl)⟩) hxn (by omega) (by omega) (by omega)) fun v8 w9 H => ?_
      have ht2 : rPieces.R w9 N1 ps1 xs1 := H.hold.at 3 rfl
      obtain ⟨S2, hp3⟩ := hp _ H.tail.tail.tail.tail.tail.tail
      have hP2 : PcR w9 gs (partX xs1 x) := Lk.all hp3 ht2 hA
      have hls : lensG gs = lensX (partX xs1 x) := lens_rel (fun g x h => by obtain ⟨S, h⟩ := h; exact h.1.1) hP2
      refine C_frag_Whole.mono (whole_spec (RowT.sl ok60 (H.hold.at 2 rfl)) hP2 (by omega)) fun v9 w10 h_v9 => ?_
      have H := H.push h_v9.1 (e := rMessage.ent (newB w9 w10) v9.1 (wholeX (partX xs1 x)).1) (fun _ hk => hk) h_v9.2.1
      have e_v9 := h_v9.2.2
      refine H.new fun b4 w11 H _ => ?_
      refine H.st 0 0 rfl rfl rfl fun w12 H => ?_
      replace H : Go.Wf.Own _ _ _ (Var b4 _ [.int .i64 v9.1.Stream, .bool v9.1.Unordered, .slice v9.1.Text.a v9.1.Text.n v9.1.Text.c] :: _) := H
      refine ⟨by rw [e_v9]; exact errV_ifc _, ?_⟩
      refine ifK.mk (fun q3 => ?_) (fun q3 => ?_)
      · skip
        refine H.st 6 0 rfl rfl rfl fun w13 H => ?_
        replace H : Go.Wf.Own _ _ _ (_ :: _ :: _ :: _ :: _ :: _ :: Var b3 _ [.int .i64 0, .bool false, .slice none 0 0, .int .u16 0] :: _) := H
        refine H.ld 6 0 rfl rfl rfl (p := (⟨⟨0, false, ⟨none, 0, 0⟩⟩, 0⟩ : GDone)) ?_
        have q3 : (wholeX (partX xs1 x)).2 ≠ 0 := by rw [e_v9, errV_nil] at q3; simpa using q3
        have hP : putX xs held x = ⟨xm0, 0, false, (wholeX (partX xs1 x)).2, offX (partX xs1 x) xs1, held + x.Text.length - lensX (partX xs1 x)⟩ := by rw [putX, he, if_neg (by simp), if_neg (by rw [q2]; simp), hxs, if_pos q3]
        rw [hP]
        have H := ((((H.drop 0).drop 0).drop 2).drop 3).drop 3
        have H := H.cast 2 (e' := rPieces.ent N1 (offG gs ps1) (offX (partX xs1 x) xs1)) rfl (fun _ hk => hk) (fun hF => off_rel (fun g x h => (piece_tsn h).1) (fun g x h => by obtain ⟨S, h⟩ := h; exact (piece_tsn h).1) hP2 hF)
        have H := H.pure (e := rMessage.ent none_ ⟨0, false, ⟨none, 0, 0⟩⟩ xm0) (fun _ hk => hk) (rm0 _ _)
        rw [hls] at H
        exact ⟨_, N1, none_, H, rfl, rfl, e_v9⟩
      · skip
        have q3 : (wholeX (partX xs1 x)).2 = 0 := by rw [e_v9, errV_nil] at q3; simpa using q3
        have h0 : 0 < gs.length := List.length_pos_iff.2 hne
        have g0 : gs[0]? = some gs[0] := List.getElem?_eq_getElem h0
        obtain ⟨y0, hy0, S3, r3⟩ := All2.at? hP2 g0
        have hs3 := (piece_tsn r3).2.2.2.2.1
        have HN := H.nest
        refine HN.ld 0 0 rfl rfl rfl (p := v9.1) ?_
        refine SlT.ggetPart ok60 HN (RowT.sl ok60 (H.hold.at 4 rfl)) (i := 0) rfl g0 2 (J := ti45) (p := gs[0].Seq) rfl ?_
        refine HN.fin fun w14 hx_w14 H => ?_
        have hX := hx_w14
        refine H.st 6 0 rfl rfl rfl fun w15 H => ?_
        replace H : Go.Wf.Own _ _ _ (_ :: _ :: _ :: _ :: _ :: _ :: Var b3 _ [.int .i64 v9.1.Stream, .bool v9.1.Unordered, .slice v9.1.Text.a v9.1.Text.n v9.1.Text.c, .int .u16 (gs[0].Seq)] :: _) := H
        refine H.ld 6 0 rfl rfl rfl (p := (⟨v9.1, (gs[0].Seq)⟩ : GDone)) ?_
        have hP : putX xs held x = ⟨(wholeX (partX xs1 x)).1, ((partX xs1 x)[0]?.map (·.Seq)).getD 0, true, 0, offX (partX xs1 x) xs1, held + x.Text.length - lensX (partX xs1 x)⟩ := by rw [putX, he, if_neg (by simp), if_neg (by rw [q2]; simp), hxs, if_neg (by rw [q3]; simp)]
        rw [hP]
        have H := (((H.drop 0).drop 3).drop 4).drop 4
        have H := H.cast 3 (e' := rPieces.ent N1 (offG gs ps1) (offX (partX xs1 x) xs1)) rfl (fun _ hk => hk) (fun hF => off_rel (fun g x h => (piece_tsn h).1) (fun g x h => by obtain ⟨S, h⟩ := h; exact (piece_tsn h).1) hP2 hF)
        rw [hls] at H
        exact ⟨_, N1, _, H, by rw [hy0]; exact hs3, rfl, rfl⟩
end Go.Wf2
