/- A part of the proof: lemmas; nothing is claimed here. -/
import Derived.Test.YtkeecncgfhgnpaaWRd
set_option linter.all false
namespace Go.Wf
open Go Go.RowKit
variable {P : Program} {T : TT}

/-! ### append over typed slices -/
/-- An own row of typed elements. -/
def RowT (I : TI) (el z : Nat) (s : Sl) (l : List I.ty) : Ent := Row el z s (l.flatMap (wrT I))
theorem one_flat {I : TI} {z : Nat} (hI : WrOk I z) (l : List I.ty) : ∀ u ∈ l.flatMap (wrT I), u.oneCell' = true := by
  intro u hu
  obtain ⟨x, _, hx⟩ := List.mem_flatMap.1 hu
  exact List.all_eq_true.1 (hI.one x) u hx
theorem len_flat {I : TI} {z : Nat} (hI : WrOk I z) (l : List I.ty) : (l.flatMap (wrT I)).length = l.length * z := flat_len (c := wrT I) hI.len l
theorem RowT.sl {I : TI} {el z : Nat} (hI : WrOk I z) {w : World} {s : Sl} {l : List I.ty} (h : (RowT I el z s l).F w) : SlT I w (fun k => ∃ a, s.a = some a ∧ a.block = k) s l := by
  obtain ⟨h1, h2, h3⟩ := Row.rdf h
  rw [len_flat hI] at h1
  refine ⟨(Nat.eq_of_mul_eq_mul_right hI.pos h1).symm, h2, ?_⟩
  rcases h3 with h0 | ⟨a, ha, hc⟩
  · left
    have := congrArg List.length h0
    rw [len_flat hI] at this
    simp only [List.length_nil, Nat.mul_eq_zero] at this
    have := hI.pos
    exact List.eq_nil_of_length_eq_zero (by omega)
  · exact .inr ⟨a, ha, ⟨a, ha, rfl⟩, hc⟩
theorem RowT.len {I : TI} {el z : Nat} (hI : WrOk I z) {w : World} {s : Sl} {l : List I.ty} (h : (RowT I el z s l).F w) : s.n = l.length := (RowT.sl hI h).len
theorem SlT.in {I : TI} {w : World} {S : Nat → Prop} {s : Sl} {l : List I.ty} (h : SlT I w S s l) : CellsIn w s (l.flatMap (wrT I)) := by
  rcases h.2.2 with h0 | ⟨a, ha, _, hc⟩
  · exact .inl (by rw [h0]; rfl)
  · exact .inr ⟨a, ha, hc⟩
theorem SlT.none {I : TI} {w : World} {S : Nat → Prop} {s : Sl} {l : List I.ty} (h : SlT I w S s l) (hn : s.a = none) : s.n = 0 ∧ l = [] := by
  rcases h.2.2 with h0 | ⟨a, ha, _⟩
  · exact ⟨by rw [h.1, h0]; rfl, h0⟩
  · rw [hn] at ha; cases ha
theorem Own.appendT {M : Nat → Prop} {w0 w : World} {L : List Ent} (h : Own M w0 w L) (i : Nat) {t ty el z bytes : Nat} {J : TI} (hJ : WrOk J z) (he : ElOk P t el z bytes) {I : TI} (mkI : Sl → I.ty) (hI : ∀ s : Sl, I.of (.slice s.a s.n s.c) = some (mkI s))
    {s x : Sl} {S : Nat → Prop} {l l' : List J.ty} {K : I.ty → World → Prop} (hi : L[i]? = some (RowT J el z s l)) (hx : SlT J w S x l')
    (hb : (l.length + l'.length) * (bytes + 1) ≤ 140737488355328)
    (hk : ∀ s' w', Own M w0 w' (L.set i (RowT J el z s' (l ++ l'))) → K (mkI s') w') :
    runT P I (Builtin.append_ #[t, t] ty #[.slice s.a s.n s.c, .slice x.a x.n x.c]) w K := by
  have hF : (RowT J el z s l).F w := h.hold.at i hi
  have hsn := RowT.len hJ hF
  refine h.append i he mkI hI (news := l'.flatMap (wrT J)) hi (by rw [len_flat hJ, hx.len]) hx.in (fun hn => (hx.none hn).1) (one_flat hJ l') (by rw [hsn, hx.len]; exact hb) fun s' w' H _ => hk s' w' ?_
  unfold RowT
  rw [List.flatMap_append]
  exact H
/-- A local of cells that read as typed elements becomes an own row. -/
theorem Own.rowT {M : Nat → Prop} {w0 w : World} {L : List Ent} (h : Own M w0 w L) (i : Nat) {b t z : Nat} {J : TI} (hJ : WrOk J z) (l : List J.ty) {cs : List Value} (hi : L[i]? = some (Var b t cs)) (hc : cs = l.flatMap (wrT J)) (hn : l.length ≤ maxLen) :
    Own M w0 w (L.set i (RowT J t z ⟨some (bx b), l.length, l.length⟩ l)) := by
  subst hc
  exact h.row i z l.length hi (by rw [len_flat hJ]) hn
theorem Own.nilT {M : Nat → Prop} {w0 w : World} {L : List Ent} (h : Own M w0 w L) (J : TI) (el z : Nat) : Own M w0 w (RowT J el z ⟨none, 0, 0⟩ [] :: L) := h.nil el z
/-- An entry is let go. -/
theorem AllE.erase {f : Ent → Prop} : ∀ {L : List Ent} (_ : AllE f L) (i : Nat), AllE f (L.eraseIdx i)
  | [], _, _ => trivial
  | _ :: _, h, 0 => h.2
  | _ :: _, h, i + 1 => ⟨h.1, AllE.erase h.2 i⟩
theorem DisjAll.erase : ∀ {L : List Ent} (_ : DisjAll L) (i : Nat), DisjAll (L.eraseIdx i)
  | [], _, _ => trivial
  | _ :: _, h, 0 => h.2
  | _ :: _, h, i + 1 => ⟨h.1.erase i, DisjAll.erase h.2 i⟩
theorem Own.drop {M : Nat → Prop} {w0 w : World} {L : List Ent} (h : Own M w0 w L) (i : Nat) : Own M w0 w (L.eraseIdx i) := ⟨h.step, h.hold.erase i, h.bnd.erase i, h.disj.erase i⟩
/-- What is new since the start. -/
theorem Own.fresh {w0 w : World} {L : List Ent} (h : Own none_ w0 w L) (i : Nat) {e : Ent} (hi : L[i]? = some e) : ∀ k, e.N k → newB w0 w k := fun k hk =>
  have := h.bnd.at i hi k hk
  ⟨this.1.resolve_left fun hh => hh, this.2⟩
/-- Two entries become one. -/
theorem Own.merge {M : Nat → Prop} {w0 w : World} {e1 e2 : Ent} {L : List Ent} (h : Own M w0 w (e1 :: e2 :: L)) {e : Ent} (hN : ∀ k, e.N k → e1.N k ∨ e2.N k) (hF : e1.F w → e2.F w → e.F w) : Own M w0 w (e :: L) where
  step := h.step
  hold := ⟨hF h.hold.1 h.hold.2.1, h.hold.2.2⟩
  bnd := ⟨fun k hk => (hN k hk).elim (h.bnd.1 k) (h.bnd.2.1 k), h.bnd.2.2⟩
  disj := ⟨(h.disj.1.2.and h.disj.2.1).imp fun _ hd k hk hk' => (hN k hk).elim (fun h1 => hd.1 k h1 hk') (fun h1 => hd.2 k h1 hk'), h.disj.2.2⟩
/-- The order of entries is free. -/
theorem AllE.mem {f : Ent → Prop} : ∀ {L : List Ent}, AllE f L ↔ ∀ (i : Nat) e, L[i]? = some e → f e
  | [] => by simp [AllE]
  | x :: L => by
    constructor
    · intro h i e hi; exact h.at i hi
    · intro h
      exact ⟨h 0 x rfl, AllE.mem.2 fun i e hi => h (i + 1) e (by simpa using hi)⟩
theorem Own.swap {M : Nat → Prop} {w0 w : World} {e1 e2 : Ent} {L : List Ent} (h : Own M w0 w (e1 :: e2 :: L)) : Own M w0 w (e2 :: e1 :: L) where
  step := h.step
  hold := ⟨h.hold.2.1, h.hold.1, h.hold.2.2⟩
  bnd := ⟨h.bnd.2.1, h.bnd.1, h.bnd.2.2⟩
  disj := ⟨⟨fun k h1 h2 => h.disj.1.1 k h2 h1, h.disj.2.1⟩, h.disj.1.2, h.disj.2.2⟩
/-- Entry i comes to the front. -/
theorem Own.front {M : Nat → Prop} {w0 w : World} : ∀ {L : List Ent} (_ : Own M w0 w L) (i : Nat) {e : Ent}, L[i]? = some e → Own M w0 w (e :: L.eraseIdx i) := fun {L} h i e hi => by
  refine ⟨h.step, ⟨h.hold.at i hi, h.hold.erase i⟩, ⟨h.bnd.at i hi, h.bnd.erase i⟩, ⟨AllE.mem.2 fun j x hj => ?_, h.disj.erase i⟩⟩
  rw [List.getElem?_eraseIdx] at hj
  split at hj
  · exact h.disj.pair hi hj (by omega)
  · exact h.disj.pair hi hj (by omega)

/-! ### What a call hands back -/
/-- The result is known. -/
def Val {Rr : Type} (w : World) (x : Rr) (r : Rr) (w' : World) : Prop := Ext w w' ∧ r = x
/-- The result is a slice in new memory. -/
abbrev MadeS (J : TI) {z : Nat} (hJ : WrOk J z) (w : World) (l : List J.ty) : Sl → World → Prop := Made w (fun r N => (Rdr.sl0 hJ).ent N r l) (fun _ => True)
/-- append onto a slice without room. -/
theorem append_fresh {w : World} {t ty el z bytes : Nat} {J : TI} (hJ : WrOk J z) (he : ElOk P t el z bytes) (b : Addr) {x : Sl} {S : Nat → Prop} {l : List J.ty} (hx : SlT J w S x l) (hb : l.length * (bytes + 1) ≤ 140737488355328) {I : TI} (mkI : Sl → I.ty) (hI : ∀ s : Sl, I.of (.slice s.a s.n s.c) = some (mkI s))
    {K : I.ty → World → Prop} (hk : ∀ r w', MadeS J hJ w l r w' → K (mkI r) w') : runT P I (Builtin.append_ #[t, t] ty #[.slice (some b) 0 0, .slice x.a x.n x.c]) w K := by
  obtain ⟨inf, zv, g1, g2, g3, g4, g5⟩ := he.info
  have hlen := hx.len
  unfold runT
  by_cases hl : l = []
  · subst hl
    have hn : x.n = 0 := by simpa using hlen
    have : (Builtin.append_ #[t, t] ty #[.slice (some b) 0 0, .slice x.a x.n x.c]).run P w = .ok (.slice (some b) 0 0) w := by
      rw [hn]
      cases x.a <;> simp [Builtin.append_, run_underlying he.under, sizeOf, typeInfo, g1, Builtin.lenOf, Builtin.firstCells, storeCells, loadCells, loadCellsFrom]
    rw [this]
    simp only [ofK, hI ⟨some b, 0, 0⟩]
    exact hk _ _ ⟨Step.refl _ _, ⟨rfl, Nat.le_refl _, .inl rfl⟩, fun k hk => hk, trivial⟩
  · obtain ⟨a, ha, _, hc⟩ := hx.2.2.resolve_left hl
    have hl0 : 0 < l.length := List.length_pos_iff.2 hl
    have hb1 : l.length ≤ 140737488355328 := Nat.le_trans (Nat.le_mul_of_pos_right _ (by omega)) hb
    have hb2 : l.length * bytes ≤ 140737488355328 := Nat.le_trans (Nat.mul_le_mul_left _ (by omega)) hb
    have hr := run_append_grow (P := P) w t ty el inf zv he.under g1 g2 b 0 0 [] (by simp) (by simp) a x.n x.c (l.flatMap (wrT J)) (by rw [len_flat hJ, hlen, g3]) (fun j v hv => hc j v hv) (by omega) (by rw [hlen]; omega)
      (by rw [Nat.zero_add, nextslicecap_zero (by omega), hlen, g4]; omega)
    rw [ha, hr]
    simp only [ofK, Nat.zero_add, hI ⟨some ⟨w.heap.size, 0, none⟩, x.n, grownCap w x.n 0 el⟩]
    refine hk _ _ ?_
    have hex : Ext w (w.drew.alloc (.cells ((([] : List Value).toArray ++ (l.flatMap (wrT J)).toArray ++ Builtin.zeroCells zv.cells (grownCap w x.n 0 el - x.n))) el)) :=
      ⟨rfl, rfl, rfl, by simp, fun k hk _ => heap_alloc_old w.drew _ k hk⟩
    have hcap : x.n ≤ grownCap w x.n 0 el := grownCap_ge w x.n 0 el
    refine ⟨hex, ⟨hlen, hcap, .inr ⟨_, rfl, ⟨Nat.le_refl _, by simp⟩, fun i v hv => ?_⟩⟩, fun k hk => hk, trivial⟩
    have hnew := heap_alloc_new w.drew (.cells ((([] : List Value).toArray ++ (l.flatMap (wrT J)).toArray ++ Builtin.zeroCells zv.cells (grownCap w x.n 0 el - x.n))) el)
    have h1 : ((⟨w.heap.size, 0, none⟩ : Addr).add i).block = w.heap.size := add_block _ _
    have h2 : ((⟨w.heap.size, 0, none⟩ : Addr).add i).off = i := by rw [add_off]; simp
    have h3 : ((⟨w.heap.size, 0, none⟩ : Addr).add i).spot = none := add_spot rfl i
    simp only [World.cell?, h1, h2, h3]
    rw [show w.heap.size = w.drew.heap.size from rfl, hnew]
    have hlt : i < (l.flatMap (wrT J)).length := (List.getElem?_eq_some_iff.1 hv).1
    show (([] : List Value).toArray ++ (l.flatMap (wrT J)).toArray ++ Builtin.zeroCells zv.cells (grownCap w x.n 0 el - x.n))[i]? = some v
    rw [Array.getElem?_append_left (by simpa using hlt), Array.getElem?_append_right (by simp)]
    simpa using hv
/-- slices.Clone. -/
theorem clone_shape {t el z bytes : Nat} {J : TI} (hJ : WrOk J z) (he : ElOk P t el z bytes) {I : TI} (mkI : Sl → I.ty) (hI : ∀ s : Sl, I.of (.slice s.a s.n s.c) = some (mkI s)) {w : World} {s : Sl} {S : Nat → Prop} {l : List J.ty} (hs : SlT J w S s l) (hb : l.length * (bytes + 1) ≤ 140737488355328)
    {K : I.ty → World → Prop} (hk : ∀ r w', MadeS J hJ w l r w' → K (mkI r) w') :
    ifK s.a.isNone (K (mkI ⟨none, 0, 0⟩) w) (NewK (.cells #[] el) w fun b w1 => runT P I (Builtin.append_ #[t, t] t #[.slice (some (bx b)) 0 0, .slice s.a s.n s.c]) w1 fun v w2 => K v w2) := by
  refine ifK.mk (fun hc => ?_) (fun hc => ?_)
  · have hn : s.a = none := by simpa using hc
    have := (hs.none hn).2
    subst this
    exact hk _ _ ⟨Step.refl _ _, SlT.nil _ _ _, fun k hk => hk, trivial⟩
  · refine (Own.start none_ w).new fun b w1 H hx => ?_
    refine append_fresh hJ he (bx b) ((Rdr.sl0 hJ).ext hs hx) hb mkI hI fun r w' hm => hk r w' ?_
    refine ⟨hx.trans (hm.1.mono fun _ hh => hh.elim), ?_, fun k hk => hk, trivial⟩
    have h2 : SlT J w' (newB w1 w') r l := hm.2.1
    exact (Rdr.sl0 hJ).mono (fun k hk => ⟨Nat.le_trans hx.size hk.1, hk.2⟩) h2
end Go.Wf
namespace Go.Wf
theorem Own.got {w0 w : World} {L : List Ent} (h : Own none_ w0 w L) {G X : Type} {R : Rdr G X} (i : Nat) {N : Nat → Prop} {g : G} {x : X} (hi : L[i]? = some (R.ent N g x)) : R.R w (newB w0 w) g x :=
  R.mono (h.fresh i hi) (h.hold.at i hi)
end Go.Wf
