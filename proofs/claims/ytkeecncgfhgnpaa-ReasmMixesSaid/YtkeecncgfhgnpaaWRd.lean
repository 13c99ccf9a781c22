/- A part of the proof: lemmas; nothing is claimed here. -/
import Derived.Test.YtkeecncgfhgnpaaWMem
set_option linter.all false
namespace Go.Wf
open Go Go.RowKit
variable {P : Program} {T : TT}

/-! ### How Go's values read -/
def All2 {G X : Type} (R : G → X → Prop) : List G → List X → Prop
  | [], [] => True
  | g :: gs, x :: xs => R g x ∧ All2 R gs xs
  | _, _ => False
theorem All2.len {G X : Type} {R : G → X → Prop} : ∀ {gs : List G} {xs : List X}, All2 R gs xs → gs.length = xs.length
  | [], [], _ => rfl
  | _ :: _, _ :: _, h => by simp [All2.len h.2]
  | [], _ :: _, h => h.elim
  | _ :: _, [], h => h.elim
theorem All2.imp {G X : Type} {R R' : G → X → Prop} (hr : ∀ g x, R g x → R' g x) : ∀ {gs : List G} {xs : List X}, All2 R gs xs → All2 R' gs xs
  | [], [], _ => trivial
  | _ :: _, _ :: _, h => ⟨hr _ _ h.1, All2.imp hr h.2⟩
  | [], _ :: _, h => h.elim
  | _ :: _, [], h => h.elim
theorem All2.at {G X : Type} {R : G → X → Prop} : ∀ {gs : List G} {xs : List X}, All2 R gs xs → ∀ (i : Nat) (h1 : i < gs.length) (h2 : i < xs.length), R gs[i] xs[i]
  | _ :: _, _ :: _, h, 0, _, _ => h.1
  | _ :: _, _ :: _, h, i + 1, h1, h2 => All2.at h.2 i (by simpa using h1) (by simpa using h2)
  | [], _, _, _, h1, _ => by simp at h1
  | _ :: _, [], h, _, _, _ => h.elim
theorem All2.snoc {G X : Type} {R : G → X → Prop} : ∀ {gs : List G} {xs : List X}, All2 R gs xs → ∀ {g : G} {x : X}, R g x → All2 R (gs ++ [g]) (xs ++ [x])
  | [], [], _, _, _, h => ⟨h, trivial⟩
  | _ :: _, _ :: _, h, _, _, hg => ⟨h.1, All2.snoc h.2 hg⟩
  | [], _ :: _, h, _, _, _ => h.elim
  | _ :: _, [], h, _, _, _ => h.elim
theorem All2.take {G X : Type} {R : G → X → Prop} : ∀ {gs : List G} {xs : List X}, All2 R gs xs → ∀ n, All2 R (gs.take n) (xs.take n)
  | [], [], _, _ => by simp [All2]
  | _ :: _, _ :: _, h, 0 => by simp [All2]
  | _ :: _, _ :: _, h, n + 1 => ⟨h.1, All2.take h.2 n⟩
  | [], _ :: _, h, _ => h.elim
  | _ :: _, [], h, _ => h.elim
theorem All2.drop {G X : Type} {R : G → X → Prop} : ∀ {gs : List G} {xs : List X}, All2 R gs xs → ∀ n, All2 R (gs.drop n) (xs.drop n)
  | [], [], _, _ => by simp [All2]
  | _ :: _, _ :: _, h, 0 => h
  | _ :: _, _ :: _, h, n + 1 => All2.drop h.2 n
  | [], _ :: _, h, _ => h.elim
  | _ :: _, [], h, _ => h.elim
theorem All2.app {G X : Type} {R : G → X → Prop} : ∀ {gs : List G} {xs : List X}, All2 R gs xs → ∀ {gs' : List G} {xs' : List X}, All2 R gs' xs' → All2 R (gs ++ gs') (xs ++ xs')
  | [], [], _, _, _, h => h
  | _ :: _, _ :: _, h, _, _, h' => ⟨h.1, All2.app h.2 h'⟩
  | [], _ :: _, h, _, _, _ => h.elim
  | _ :: _, [], h, _, _, _ => h.elim
theorem All2.refl {X : Type} : ∀ (xs : List X), All2 Eq xs xs
  | [] => trivial
  | _ :: xs => ⟨rfl, All2.refl xs⟩
theorem All2.eq {X : Type} : ∀ {gs xs : List X}, All2 Eq gs xs → gs = xs
  | [], [], _ => rfl
  | _ :: _, _ :: _, h => by rw [h.1, All2.eq h.2]
  | [], _ :: _, h => h.elim
  | _ :: _, [], h => h.elim

/-- How a Go value reads, in the blocks S. -/
structure Rdr (G X : Type) where
  R : World → (Nat → Prop) → G → X → Prop
  fr : ∀ {w w' : World} {S : Nat → Prop} {g : G} {x : X}, (∀ k, S k → w'.heap[k]? = w.heap[k]?) → R w S g x → R w' S g x
  mono : ∀ {w : World} {S S' : Nat → Prop} {g : G} {x : X}, (∀ k, S k → S' k) → R w S g x → R w S' g x
  lim : ∀ {w : World} {S : Nat → Prop} {g : G} {x : X}, R w S g x → R w (fun k => S k ∧ k < w.heap.size) g x
theorem Rdr.step {G X : Type} (R : Rdr G X) {M S : Nat → Prop} {w w' : World} {g : G} {x : X} (h : R.R w S g x) (hs : Step M w w') (hd : ∀ k, S k → ¬ M k) : R.R w' S g x :=
  R.mono (fun _ hk => hk.1) (R.fr (fun k hk => hs.block k hk.2 (hd k hk.1)) (R.lim h))
theorem Rdr.ext {G X : Type} (R : Rdr G X) {S : Nat → Prop} {w w' : World} {g : G} {x : X} (h : R.R w S g x) (hs : Ext w w') : R.R w' S g x := R.step h hs fun _ _ hh => hh
/-- A value that takes no memory. -/
def Rdr.val (X : Type) : Rdr X X := ⟨fun _ _ g x => g = x, fun _ h => h, fun _ h => h, fun h => h⟩
/-- The blocks N hold what reads so. -/
def Rdr.ent {G X : Type} (R : Rdr G X) (N : Nat → Prop) (g : G) (x : X) : Ent := ⟨N, fun w => R.R w N g x, fun _ _ h hf => R.fr h hf⟩
def Rdr.list {G X : Type} (R : Rdr G X) : Rdr (List G) (List X) where
  R := fun w S gs xs => All2 (R.R w S) gs xs
  fr := fun h hr => hr.imp fun _ _ => R.fr h
  mono := fun h hr => hr.imp fun _ _ => R.mono h
  lim := fun hr => hr.imp fun _ _ => R.lim

/-! ### Slices of typed elements -/
/-- What is asked of an element's row. -/
structure WrOk (I : TI) (z : Nat) : Prop where
  len : ∀ p, (cellsT I (I.val p)).length = z
  one : ∀ p, (cellsT I (I.val p)).all Value.oneCell' = true
  pos : 0 < z
def wrT (I : TI) (p : I.ty) : List Value := cellsT I (I.val p)
/-- A slice of typed elements, as they stand. -/
def SlT (I : TI) (w : World) (S : Nat → Prop) (s : Sl) (l : List I.ty) : Prop :=
  s.n = l.length ∧ s.n ≤ s.c ∧ (l = [] ∨ ∃ a, s.a = some a ∧ S a.block ∧ CellsAt w a (l.flatMap (wrT I)))
theorem CellsAt.fr {w w' : World} {a : Addr} {cs : List Value} (h : w'.heap[a.block]? = w.heap[a.block]?) (hc : CellsAt w a cs) : CellsAt w' a cs := fun i v hv => by
  have := hc i v hv
  simp only [World.cell?, add_block] at this ⊢
  rw [h]; exact this
theorem CellsAt.lt {w : World} {a : Addr} {cs : List Value} (h : CellsAt w a cs) (hc : cs ≠ []) : a.block < w.heap.size := by
  obtain ⟨v, r, rfl⟩ := List.exists_cons_of_ne_nil hc
  have := h 0 v rfl
  simp only [World.cell?, add_block] at this
  cases hb : w.heap[a.block]? with
  | none => simp [hb] at this
  | some o => exact (Array.getElem?_eq_some_iff.1 hb).1
def Rdr.sl0 {I : TI} {z : Nat} (hI : WrOk I z) : Rdr Sl (List I.ty) where
  R := fun w S s l => SlT I w S s l
  fr := fun h hr => ⟨hr.1, hr.2.1, hr.2.2.imp id fun ⟨a, ha, hs, hc⟩ => ⟨a, ha, hs, hc.fr (h _ hs)⟩⟩
  mono := fun h hr => ⟨hr.1, hr.2.1, hr.2.2.imp id fun ⟨a, ha, hs, hc⟩ => ⟨a, ha, h _ hs, hc⟩⟩
  lim := fun {w S s l} hr => ⟨hr.1, hr.2.1, by
    by_cases hl : l = []
    · exact .inl hl
    · refine .inr ?_
      obtain ⟨a, ha, hs, hc⟩ := hr.2.2.resolve_left hl
      refine ⟨a, ha, ⟨hs, hc.lt ?_⟩, hc⟩
      obtain ⟨x, r, rfl⟩ := List.exists_cons_of_ne_nil hl
      intro he
      have := congrArg List.length he
      simp only [List.flatMap_cons, List.length_append, List.length_nil, wrT, hI.len x] at this
      have := hI.pos
      omega⟩
/-- A slice of elements that read further. -/
def Rdr.sl {I : TI} {z : Nat} {X : Type} (hI : WrOk I z) (R : Rdr I.ty X) : Rdr Sl (List X) where
  R := fun w S s xs => ∃ gs : List I.ty, SlT I w S s gs ∧ All2 (R.R w S) gs xs
  fr := fun h ⟨gs, h1, h2⟩ => ⟨gs, (Rdr.sl0 hI).fr h h1, h2.imp fun _ _ => R.fr h⟩
  mono := fun h ⟨gs, h1, h2⟩ => ⟨gs, (Rdr.sl0 hI).mono h h1, h2.imp fun _ _ => R.mono h⟩
  lim := fun ⟨gs, h1, h2⟩ => ⟨gs, (Rdr.sl0 hI).lim h1, h2.imp fun _ _ => R.lim⟩
theorem SlT.nil (I : TI) (w : World) (S : Nat → Prop) : SlT I w S ⟨none, 0, 0⟩ [] := ⟨rfl, Nat.le_refl _, .inl rfl⟩
theorem SlT.len {I : TI} {w : World} {S : Nat → Prop} {s : Sl} {l : List I.ty} (h : SlT I w S s l) : s.n = l.length := h.1
/-- The address of element j. -/
theorem SlT.idx {I : TI} {z : Nat} (hI : WrOk I z) {w : World} {S : Nat → Prop} {s : Sl} {l : List I.ty} (h : SlT I w S s l) {j : Int} {k : Addr → Prop} (hj : 0 ≤ j) (hlt : j < l.length)
    (hk : ∀ a, CellsAt w a (cellsT I (I.val (l[j.toNat]'(by omega)))) → S a.block → k a) : idxK s.a s.n j z k := by
  have hjl : j.toNat < l.length := by omega
  refine ⟨⟨hj, by rw [h.1]; exact hlt⟩, ?_⟩
  rcases h.2.2 with h0 | ⟨a, ha, hs, hc⟩
  · rw [h0] at hjl; simp at hjl
  · exact ⟨a, ha, hk _ (hc.sub _ fun i v hv => flat_at (c := wrT I) hI.len l j.toNat _ (by simp [hjl]) i v hv) (by rw [add_block]; exact hs)⟩
/-- Element j is loaded. -/
theorem SlT.get {I : TI} {z : Nat} (hI : WrOk I z) {w : World} {S : Nat → Prop} {s : Sl} {l : List I.ty} (h : SlT I w S s l) {j : Int} {K : I.ty → Prop} (hj : 0 ≤ j) (hlt : j < l.length)
    (hk : K (l[j.toNat]'(by omega))) : idxK s.a s.n j z fun a => ldK I w a K := h.idx hI hj hlt fun _ ha _ => ⟨_, ha, hk⟩
/-- A part of a composite is loaded. -/
theorem ldK.part {I : TI} {w : World} {a : Addr} {cs r : List Value} {p : I.ty} {K : I.ty → Prop} (h : CellsAt w a cs) (n : Nat) (hc : cs.drop n = cellsT I (I.val p) ++ r) (hk : K p) : ldK I w (a.add n) K :=
  ⟨p, h.sub n fun i v hv => by
    have : (cs.drop n)[i]? = some v := by rw [hc, List.getElem?_append_left (List.getElem?_eq_some_iff.1 hv).1, hv]
    simpa using this, hk⟩
theorem ldK.part0 {I : TI} {w : World} {a : Addr} {cs r : List Value} {p : I.ty} {K : I.ty → Prop} (h : CellsAt w a cs) (hc : cs = cellsT I (I.val p) ++ r) (hk : K p) : ldK I w a K :=
  ⟨p, fun i v hv => h i v (by rw [hc, List.getElem?_append_left (List.getElem?_eq_some_iff.1 hv).1, hv]), hk⟩
theorem SlT.take {I : TI} {w : World} {S : Nat → Prop} {s : Sl} {l : List I.ty} (h : SlT I w S s l) {j : Nat} (hj : j ≤ s.n) : SlT I w S ⟨s.a, j, s.c⟩ (l.take j) := by
  refine ⟨by simp [← h.1, hj], Nat.le_trans hj h.2.1, ?_⟩
  rcases h.2.2 with h0 | ⟨a, ha, hs, hc⟩
  · exact .inl (by rw [h0]; simp)
  · refine .inr ⟨a, ha, hs, fun i v hv => hc i v ?_⟩
    have : l.flatMap (wrT I) = (l.take j).flatMap (wrT I) ++ (l.drop j).flatMap (wrT I) := by rw [← List.flatMap_append, List.take_append_drop]
    rw [this, List.getElem?_append_left (List.getElem?_eq_some_iff.1 hv).1, hv]

/-! ### A nest's worlds -/
structure NOwn (M : Nat → Prop) (w0 v : World) (th : Th) (L : List Ent) : Prop where
  here : ∀ W, th.G W → Own M w0 W L
  ex : ∀ W, th.G W → Ext v W
  sz : w0.heap.size ≤ v.heap.size
  av : AllE (fun e => ∀ k, e.N k → k < v.heap.size ∨ th.av k) L
  base : th.w0 = v
theorem Own.nest {M : Nat → Prop} {w0 w : World} {L : List Ent} (h : Own M w0 w L) : NOwn M w0 w (Th.start w) L :=
  ⟨fun _ hW => h.ext hW, fun _ hW => hW, h.step.size, h.bnd.imp fun _ he k hk => .inl (he k hk).2, rfl⟩
theorem NOwn.new {M : Nat → Prop} {w0 v : World} {th : Th} {L : List Ent} (h : NOwn M w0 v th L) {cs : Array Value} {t : Nat} {k : Nat → Th → Prop}
    (hk : ∀ b th', NOwn M w0 v th' (Var b t cs.toList :: L) → k b th') : gNew th (.cells cs t) k := by
  intro b h1 h2 _
  rw [h.base] at h1
  refine hk b _ ⟨fun W hW => ?_, fun W hW => h.ex W hW.1, h.sz, ⟨fun k hk => ?_, h.av.imp fun e he k hk => (he k hk).imp id .inl⟩, h.base⟩
  · have H := h.here W hW.1
    refine ⟨H.step, ⟨by simpa [Var] using hW.2, H.hold⟩, ⟨fun k hk => ?_, H.bnd⟩, ⟨h.av.imp fun e he k hk hk' => ?_, H.disj⟩⟩
    · have : k = b := hk
      subst this
      exact ⟨.inr (Nat.le_trans h.sz h1), (Array.getElem?_eq_some_iff.1 hW.2).1⟩
    · have : k = b := hk
      subst this
      rcases he k hk' with h3 | h3
      · omega
      · exact h2 h3
  · have : k = b := hk
    exact .inr (.inr this)
/-- What a call that makes says of its result: its blocks are new. -/
def Made {Rr : Type} (w : World) (E : Rr → (Nat → Prop) → Ent) (p : Rr → Prop) (r : Rr) (w' : World) : Prop :=
  Ext w w' ∧ (E r (newB w w')).F w' ∧ (∀ k, (E r (newB w w')).N k → newB w w' k) ∧ p r
theorem Own.made {M : Nat → Prop} {w0 w w' : World} {L : List Ent} (h : Own M w0 w L) {Rr : Type} {E : Rr → (Nat → Prop) → Ent} {p : Rr → Prop} {r : Rr} (hm : Made w E p r w') :
    Own M w0 w' (E r (newB w w') :: L) := h.push hm.1 hm.2.2.1 hm.2.1
theorem NOwn.eff {M : Nat → Prop} {w0 v : World} {th : Th} {L : List Ent} (h : NOwn M w0 v th L) {Rr : Type} {F : World → (Rr → World → Prop) → Prop} {k : Rr → (Nat → Prop) → Th → Prop}
    (E : Rr → (Nat → Prop) → Ent) (p : Rr → Prop) (hN : ∀ r N k, (E r N).N k → N k) (hmono : ∀ W K K', (∀ r W', K r W' → K' r W') → F W K → F W K')
    (hrun : ∀ W, th.G W → Own M w0 W L → F W (Made W E p))
    (hk : ∀ r N th', p r → NOwn M w0 v th' (E r N :: L) → k r N th') : gEff th F k := by
  refine ⟨fun r N W => (E r N).F W ∧ (∀ k, N k → k < W.heap.size) ∧ p r, fun r N W W' ⟨h1, h2, h3⟩ hx => ⟨(E r N).fr W W' (fun k hk => hx.block k (h2 k (hN r N k hk)) fun hh => hh) h1, fun k hk => Nat.lt_of_lt_of_le (h2 k hk) hx.size, h3⟩,
    fun W hW => hmono W _ _ (fun r W' hm => ⟨hm.1, hm.2.1, fun k hk => hk.2, hm.2.2.2⟩) (hrun W hW (h.here W hW)), fun r N hnew ⟨W0, hW0, hφ⟩ => ?_⟩
  rw [h.base] at hnew
  refine hk r N _ hφ.2.2 ⟨fun W hW => ?_, fun W hW => h.ex W hW.1, h.sz, ⟨fun k hk => .inr (.inr (hN r N k hk)), h.av.imp fun e he k hk => (he k hk).imp id .inl⟩, h.base⟩
  have H := h.here W hW.1
  refine ⟨H.step, ⟨hW.2.1, H.hold⟩, ⟨fun k hk => ?_, H.bnd⟩, ⟨h.av.imp fun e he k hk hk' => ?_, H.disj⟩⟩
  · exact ⟨.inr (Nat.le_trans h.sz (hnew k (hN r N k hk)).1), hW.2.2.1 k (hN r N k hk)⟩
  · have h1 := hnew k (hN r N k hk)
    rcases he k hk' with h3 | h3
    · omega
    · exact h1.2.1 h3
/-- A call whose value is known and that makes nothing to keep. -/
theorem NOwn.val {M : Nat → Prop} {w0 v : World} {th : Th} {L : List Ent} (h : NOwn M w0 v th L) {Rr : Type} {F : World → (Rr → World → Prop) → Prop} {k : Rr → (Nat → Prop) → Th → Prop}
    (vv : Rr) (hrun : ∀ W, th.G W → Own M w0 W L → F W fun r W' => Ext W W' ∧ r = vv)
    (hk : ∀ N th', NOwn M w0 v th' L → k vv N th') : gEff th F k :=
  ⟨fun r _ _ => r = vv, fun _ _ _ _ h _ => h, fun W hW => hrun W hW (h.here W hW), fun r N _ ⟨_, _, hr⟩ => by
    subst hr
    exact hk N _ ⟨fun W hW => h.here W hW.1, fun W hW => h.ex W hW.1, h.sz, h.av.imp fun e he k hk => (he k hk).imp id .inl, h.base⟩⟩
theorem NOwn.ld {M : Nat → Prop} {w0 v : World} {th : Th} {L : List Ent} (h : NOwn M w0 v th L) (i n : Nat) {b t : Nat} {l r : List Value} {a : Addr} {I : TI} {p : I.ty} {K : I.ty → Prop} (hi : L[i]? = some (Var b t l))
    (ha : a = (bx b).add n) (hc : l.drop n = cellsT I (I.val p) ++ r) (hk : K p) : gLd I th a K :=
  ⟨p, fun W hW => by
    obtain ⟨q, hq, he⟩ := Own.ld (K := fun q => q = p) (h.here W hW) i n hi ha hc rfl
    subst he
    exact hq, hk⟩
theorem NOwn.lda {M : Nat → Prop} {w0 v : World} {th : Th} {L : List Ent} (h : NOwn M w0 v th L) {a : Addr} {I : TI} {p : I.ty} {K : I.ty → Prop} (hc : CellsAt v a (cellsT I (I.val p))) (hk : K p) : gLd I th a K :=
  gLd.mk h.ex hc hk
theorem NOwn.part {M : Nat → Prop} {w0 v : World} {th : Th} {L : List Ent} (h : NOwn M w0 v th L) {a : Addr} {cs r : List Value} {I : TI} {p : I.ty} {K : I.ty → Prop} (hc : CellsAt v a cs) (n : Nat) (he : cs.drop n = cellsT I (I.val p) ++ r) (hk : K p) : gLd I th (a.add n) K := by
  obtain ⟨q, hq, e⟩ := ldK.part (K := fun q => q = p) hc n he rfl
  subst e
  exact gLd.mk h.ex hq hk
theorem NOwn.part0 {M : Nat → Prop} {w0 v : World} {th : Th} {L : List Ent} (h : NOwn M w0 v th L) {a : Addr} {cs r : List Value} {I : TI} {p : I.ty} {K : I.ty → Prop} (hc : CellsAt v a cs) (he : cs = cellsT I (I.val p) ++ r) (hk : K p) : gLd I th a K := by
  obtain ⟨q, hq, e⟩ := ldK.part0 (K := fun q => q = p) hc he rfl
  subst e
  exact gLd.mk h.ex hq hk
theorem NOwn.fin {M : Nat → Prop} {w0 v : World} {th : Th} {L : List Ent} (h : NOwn M w0 v th L) {k : World → Prop} (hk : ∀ W, Ext v W → Own M w0 W L → k W) : gEnd th k := fun W hW _ => hk W (h.ex W hW) (h.here W hW)
end Go.Wf
