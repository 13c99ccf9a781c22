/- A part of the proof: lemmas; nothing is claimed here. -/
import Derived.Test.YtkeecncgfhgnpaaWLp
set_option linter.all false
namespace Go.Wf
open Go Go.RowKit
variable {P : Program} {T : TT}
theorem SlT.mono {I : TI} {w : World} {S S' : Nat → Prop} {s : Sl} {l : List I.ty} (h : SlT I w S s l) (hs : ∀ k, S k → S' k) : SlT I w S' s l := ⟨h.1, h.2.1, h.2.2.imp id fun ⟨a, ha, hk, hc⟩ => ⟨a, ha, hs _ hk, hc⟩⟩
theorem SlT.ext {I : TI} {w w' : World} {S : Nat → Prop} {s : Sl} {l : List I.ty} {z : Nat} (h : SlT I w S s l) (hI : WrOk I z) (hx : Ext w w') : SlT I w' S s l := (Rdr.sl0 hI).ext (show (Rdr.sl0 hI).R w S s l from h) hx
theorem SlT.ggetNat {I : TI} {z : Nat} (hI : WrOk I z) {M : Nat → Prop} {w0 w : World} {th : Th} {L : List Ent} (hN : NOwn M w0 w th L) {S : Nat → Prop} {s : Sl} {l : List I.ty} (h : SlT I w S s l) {j : Int} {i : Nat} (hj : j = (i : Int)) {K : I.ty → Prop} (hlt : i < l.length)
    (hk : ∀ v, l[i]? = some v → K v) : idxK s.a s.n j z fun a => gLd I th a K := by subst hj; exact h.gget hI hN hlt hk
theorem NOwn.newb {M : Nat → Prop} {w0 v : World} {th : Th} {L : List Ent} (h : NOwn M w0 v th L) {cs : Array Value} {t : Nat} {k : Nat → Th → Prop}
    (hk : ∀ b th', v.heap.size ≤ b → NOwn M w0 v th' (Var b t cs.toList :: L) → k b th') : gNew th (.cells cs t) k := fun b h1 h2 h3 =>
  (h.new (k := fun b' th' => v.heap.size ≤ b' → k b' th') fun b' th' H hb => hk b' th' hb H) b h1 h2 h3 (by rw [← h.base]; exact h1)
theorem Own.stx {M : Nat → Prop} {w0 w : World} {L : List Ent} (h : Own M w0 w L) (i n : Nat) {b t : Nat} {l cs : List Value} {a : Addr} {K : World → Prop} (hi : L[i]? = some (Var b t l))
    (ha : a = (bx b).add n) (hn : Nat.ble (n + cs.length) l.length = true) (hk : ∀ w', (∀ w1, Ext w1 w → w1.heap.size ≤ b → Ext w1 w') → Own M w0 w' (L.set i (Var b t (setAt n cs l))) → K w') : StoreK a cs w K := by
  obtain ⟨h1, h2⟩ := h.st (K := fun w' => (∀ w1, Ext w1 w → w1.heap.size ≤ b → Ext w1 w') → K w') i n hi ha hn fun w' H hx => hk w' hx H
  exact ⟨h1, fun w' hw => h2 w' hw fun w1 hx hb => Step.wrote hx hw (.inr (by subst ha; rw [add_block]; exact hb))⟩
/-! ### Entries that lean on old blocks -/
def mixW (w0 w : World) : World := { w with heap := w0.heap ++ w.heap.extract w0.heap.size w.heap.size }
theorem mixW_old {w0 w : World} {k : Nat} (h : k < w0.heap.size) : (mixW w0 w).heap[k]? = w0.heap[k]? := by simp [mixW, Array.getElem?_append, h]
theorem mixW_new {w0 w : World} {k : Nat} (h : w0.heap.size ≤ k) : (mixW w0 w).heap[k]? = w.heap[k]? := by
  have : ¬ k < w0.heap.size := by omega
  simp only [mixW, Array.getElem?_append, this, if_false]
  rw [Array.getElem?_extract]
  split
  · congr 1; omega
  · rename_i h2
    rw [Array.getElem?_eq_none]; omega
/-- What reads over old blocks S and own blocks N. -/
def Rdr.mix {G X : Type} (R : Rdr G X) (w0 : World) (S N : Nat → Prop) (g : G) (x : X) : Ent :=
  ⟨N, fun w => (∀ k, S k → k < w0.heap.size) ∧ (∀ k, N k → w0.heap.size ≤ k) ∧ R.R (mixW w0 w) (fun k => S k ∨ N k) g x, fun w w' h hf => ⟨hf.1, hf.2.1, R.fr (fun k hk => by
    rcases hk with hk | hk
    · rw [mixW_old (hf.1 k hk), mixW_old (hf.1 k hk)]
    · rw [mixW_new (hf.2.1 k hk), mixW_new (hf.2.1 k hk)]; exact h k hk) hf.2.2⟩⟩
theorem Own.mixed {w0 w w' : World} {L : List Ent} (h : Own none_ w0 w L) (hx : Ext w w') {G X : Type} (R : Rdr G X) {S : Nat → Prop} {g : G} {x : X} (hS : ∀ k, S k → k < w0.heap.size) (hr : R.R w' (fun k => S k ∨ newB w w' k) g x) :
    Own none_ w0 w' (R.mix w0 S (newB w w') g x :: L) :=
  h.push hx (fun _ hk => hk) ⟨hS, fun k hk => Nat.le_trans h.step.size hk.1, R.fr (fun k hk => by
    rcases hk with hk | hk
    · rw [mixW_old (hS k hk)]
      exact ((h.ext hx).step.block k (hS k hk) fun hh => hh).symm
    · rw [mixW_new (Nat.le_trans h.step.size hk.1)]) hr⟩
theorem Own.unmix {w0 w : World} {L : List Ent} (h : Own none_ w0 w L) {G X : Type} {R : Rdr G X} {S N : Nat → Prop} {g : G} {x : X} (i : Nat) (hi : L[i]? = some (R.mix w0 S N g x)) : R.R w (fun k => S k ∨ N k) g x := by
  obtain ⟨h1, h2, h3⟩ := h.hold.at i hi
  refine R.fr (fun k hk => ?_) h3
  rcases hk with hk | hk
  · rw [mixW_old (h1 k hk)]
    exact h.step.block k (h1 k hk) fun hh => hh
  · rw [mixW_new (h2 k hk)]
theorem Own.unmixed {w0 w : World} {L : List Ent} (h : Own none_ w0 w L) {G X : Type} {R : Rdr G X} {S N : Nat → Prop} {g : G} {x : X} (i : Nat) (hi : L[i]? = some (R.mix w0 S N g x)) : R.R w (fun k => S k ∨ newB w0 w k) g x :=
  R.mono (fun k hk => hk.imp id (h.fresh i hi k)) (h.unmix i hi)
theorem Own.snocM {w0 w : World} {L : List Ent} {G X : Type} {R : Rdr G X} {S N N' : Nat → Prop} {g : G} {x : X} {gs : List G} {xs : List X} (h : Own none_ w0 w (R.mix w0 S N' g x :: R.list.mix w0 S N gs xs :: L)) :
    Own none_ w0 w (R.list.mix w0 S (fun k => N' k ∨ N k) (gs ++ [g]) (xs ++ [x]) :: L) :=
  h.merge (fun _ hk => hk) fun h1 h2 => ⟨h1.1, fun k hk => hk.elim (h1.2.1 k) (h2.2.1 k), All2.snoc (All2.imp (fun _ _ => R.mono fun _ hk => hk.imp id .inr) (show All2 (R.R (mixW w0 w) _) gs xs from h2.2.2)) (R.mono (fun _ hk => hk.imp id .inl) h1.2.2)⟩
theorem Own.list0M {w0 w : World} {L : List Ent} (h : Own none_ w0 w L) {G X : Type} (R : Rdr G X) {S : Nat → Prop} (hS : ∀ k, S k → k < w0.heap.size) : Own none_ w0 w (R.list.mix w0 S none_ [] [] :: L) := h.pure (fun _ hk => hk) ⟨hS, fun _ hk => hk.elim, trivial⟩
theorem Own.slOfM {w0 w : World} {L : List Ent} (h : Own none_ w0 w L) {I : TI} {el z : Nat} (hI : WrOk I z) {X : Type} {R : Rdr I.ty X} (i j : Nat) {s : Sl} {gs : List I.ty} {S N : Nat → Prop} {xs : List X} (hi : L[i]? = some (RowT I el z s gs)) (hj : L[j]? = some (R.list.mix w0 S N gs xs)) :
    (Rdr.sl hI R).R w (fun k => S k ∨ newB w0 w k) s xs :=
  ⟨gs, SlT.mono (RowT.sl hI (h.hold.at i hi)) (fun k hk => Or.inr (h.fresh i hi k hk)), (h.unmixed (R := R.list) j hj)⟩
/-- A call whose result leans on an entry: it takes its place. -/
theorem NOwn.effOn {M : Nat → Prop} {w0 v : World} {th : Th} {L : List Ent} {G X : Type} {R : Rdr G X} {N2 : Nat → Prop} {g : G} {x : X} (h : NOwn M w0 v th (R.ent N2 g x :: L)) {Rr Y : Type} (R' : Rdr Rr Y) (y : Y) {F : World → (Rr → World → Prop) → Prop} {k : Rr → (Nat → Prop) → Th → Prop}
    (hmono : ∀ W K K', (∀ r W', K r W' → K' r W') → F W K → F W K')
    (hrun : ∀ W, th.G W → Own M w0 W (R.ent N2 g x :: L) → F W fun r W' => Ext W W' ∧ R'.R W' (fun k => N2 k ∨ newB W W' k) r y)
    (hk : ∀ r N th', NOwn M w0 v th' (R'.ent (fun k => N2 k ∨ N k) r y :: L) → k r N th') : gEff th F k := by
  refine ⟨fun r N W => R'.R W (fun k => N2 k ∨ N k) r y ∧ (∀ k, N k → k < W.heap.size), fun r N W W' ⟨h1, h2⟩ hx => ⟨R'.ext h1 hx, fun k hk => Nat.lt_of_lt_of_le (h2 k hk) hx.size⟩,
    fun W hW => hmono W _ _ (fun r W' hm => ⟨hm.1, hm.2, fun k hk => hk.2⟩) (hrun W hW (h.here W hW)), fun r N hnew ⟨W0, hW0, hφ⟩ => ?_⟩
  rw [h.base] at hnew
  refine hk r N _ ⟨fun W hW => ?_, fun W hW => h.ex W hW.1, h.sz, ⟨fun k hk => ?_, h.av.2.imp fun e he k hk => (he k hk).imp id .inl⟩, h.base⟩
  · have H := h.here W hW.1
    refine ⟨H.step, ⟨hW.2.1, H.hold.2⟩, ⟨fun k hk => ?_, H.bnd.2⟩, ⟨(h.av.2.and H.disj.1).imp fun e he k hk hk' => ?_, H.disj.2⟩⟩
    · rcases hk with hk | hk
      · exact H.bnd.1 k hk
      · exact ⟨.inr (Nat.le_trans h.sz (hnew k hk).1), hW.2.2 k hk⟩
    · rcases hk with hk | hk
      · exact he.2 k hk hk'
      · have h1 := hnew k hk
        rcases he.1 k hk' with h3 | h3
        · omega
        · exact h1.2.1 h3
  · rcases hk with hk | hk
    · exact (h.av.1 k hk).imp id .inl
    · exact .inr (.inr hk)
theorem NOwn.front {M : Nat → Prop} {w0 v : World} {th : Th} {L : List Ent} (h : NOwn M w0 v th L) (i : Nat) {e : Ent} (hi : L[i]? = some e) : NOwn M w0 v th (e :: L.eraseIdx i) :=
  ⟨fun W hW => (h.here W hW).front i hi, h.ex, h.sz, ⟨h.av.at i hi, h.av.erase i⟩, h.base⟩
theorem NOwn.drop {M : Nat → Prop} {w0 v : World} {th : Th} {L : List Ent} (h : NOwn M w0 v th L) (i : Nat) : NOwn M w0 v th (L.eraseIdx i) := ⟨fun W hW => (h.here W hW).drop i, h.ex, h.sz, h.av.erase i, h.base⟩
theorem Own.callOn {w0 w w' : World} {L : List Ent} {G X : Type} {R : Rdr G X} {N2 : Nat → Prop} {g : G} {x : X} (h : Own none_ w0 w (R.ent N2 g x :: L)) {Rr Y : Type} (R' : Rdr Rr Y) {y : Y} {r : Rr} (hx : Ext w w') (hr : R'.R w' (fun k => N2 k ∨ newB w w' k) r y) :
    Own none_ w0 w' (R'.ent (fun k => newB w w' k ∨ N2 k) r y :: L) :=
  Own.merge (e1 := ⟨newB w w', fun W => ∀ k, newB w w' k → k < W.heap.size ∧ W.heap[k]? = w'.heap[k]?, fun W W' hh hf k hk => by
      have := hf k hk
      have e := hh k hk
      refine ⟨?_, by rw [e]; exact this.2⟩
      have : (W.heap[k]?).isSome := by rw [Array.getElem?_eq_getElem this.1]; rfl
      rw [← e] at this
      rcases Nat.lt_or_ge k W'.heap.size with h1 | h1
      · exact h1
      · rw [Array.getElem?_eq_none h1] at this; cases this⟩) (e2 := R.ent N2 g x)
    (h.push hx (fun _ hk => hk) fun k hk => ⟨hk.2, rfl⟩) (fun _ hk => hk) fun _ _ => R'.mono (fun _ hk => hk.symm) hr
end Go.Wf
