/- A part of the proof: lemmas; nothing is claimed here. -/
import Derived.Test.YtkeecncgfhgnpaaWMx
import Derived.MapKept
import Derived.Maps.Keyed
set_option linter.all false
namespace Go.Wf
open Go Go.RowKit Go.MapKept
variable {P : Program} {T : TT}

/-! ### Maps -/
structure KeyOk (P : Program) (kt : Nat) (K : TI) : Prop where
  inj : ∀ a b : K.ty, K.val a = K.val b → a = b
  check : ∀ (e : Bool) (w : World) (k : K.ty), (Instr.checkKey e 10000 kt (K.val k)).run P w = .ok () w
  find : ∀ (w : World) (k : K.ty) (es : List MapEntry), (∀ e ∈ es, ∃ k', e.key = K.val k') →
    ((Instr.findKey kt (K.val k) es).run P w = .ok none w ∧ ∀ e ∈ es, e.key ≠ K.val k) ∨ ∃ j e, (Instr.findKey kt (K.val k) es).run P w = .ok (some (j, e.val)) w ∧ es[j]? = some e ∧ e.key = K.val k
  stays : ∀ (w : World) (k : K.ty), (Instr.keyThatStays (K.val k) (K.val k)).run P w = .ok (K.val k) w
theorem keyOk_int {kt : Nat} {k : IntKind} {K : TI} (hk : P.underlying kt = some (.int k)) (mk : K.ty → Int) (hv : ∀ a, K.val a = .int k (mk a)) (hm : ∀ a b, mk a = mk b → a = b) : KeyOk P kt K where
  inj := fun a b h => by rw [hv, hv] at h; exact hm _ _ (Value.int.inj h).2
  check := fun e w a => run_checkKey hk (by rw [hv]; simp [IsKey]) e 9999
  find := fun w a es h => by
    have hkey : IsKey (.int k) (K.val a) := by rw [hv]; simp [IsKey]
    rcases findNow_spec hkey es 0 (fun x hx => by obtain ⟨k', e⟩ := h x hx; rw [e, hv]; simp [IsKey]) with ⟨h1, h2⟩ | ⟨j, e, h1, h2, h3⟩
    · exact .inl ⟨run_findKey hk h1, h2⟩
    · exact .inr ⟨j, e, by rw [Nat.zero_add] at h1; exact run_findKey hk h1, h2, h3⟩
  stays := fun w a => by
    rw [hv]
    have : Instr.sameBits 10000 (.int k (mk a)) (.int k (mk a)) = true := by unfold Instr.sameBits; simp
    simp [Instr.keyThatStays, this]
/-- A map's block. -/
def MapB (K J : TI) (m : Nat) (gs : List (K.ty × J.ty)) : Ent where
  N := fun k => k = m
  F := fun w => ∃ es clock, w.heap[m]? = some (.map es clock) ∧ Stamped es clock ∧ es.toList.map (fun e => (e.key, e.val)) = gs.map (fun g => (K.val g.1, J.val g.2))
  fr := fun w w' h ⟨es, c, h1, h2⟩ => ⟨es, c, by rw [h m rfl]; exact h1, h2⟩
def getG {κ ν : Type} [DecidableEq κ] (gs : List (κ × ν)) (k : κ) : Option ν := (gs.find? fun g => decide (g.1 = k)).map (·.2)
def putG {κ ν : Type} [DecidableEq κ] (gs : List (κ × ν)) (k : κ) (v : ν) : List (κ × ν) := if gs.any (fun g => decide (g.1 = k)) then gs.map fun g => if g.1 = k then (k, v) else g else gs ++ [(k, v)]
def delG {κ ν : Type} [DecidableEq κ] (gs : List (κ × ν)) (k : κ) : List (κ × ν) := gs.filter fun g => decide (g.1 ≠ k)
theorem MapB.keys {K J : TI} {kt : Nat} (hK : KeyOk P kt K) {es : Array MapEntry} {gs : List (K.ty × J.ty)} {c : Nat} (h2 : Stamped es c) (h3 : es.toList.map (fun e => (e.key, e.val)) = gs.map (fun g => (K.val g.1, J.val g.2))) : gs.Pairwise fun a b => a.1 ≠ b.1 := by
  have h4 := ((stamped_iff _ _).1 h2).2.2
  have h5 : (es.toList.map (fun e => (e.key, e.val))).Pairwise (fun a b => a.1 ≠ b.1) := by rw [List.pairwise_map]; exact h4
  rw [h3, List.pairwise_map] at h5
  exact h5.imp fun h e => h (by rw [e])
theorem MapB.look {K J : TI} [DecidableEq K.ty] {kt : Nat} (hK : KeyOk P kt K) {es : List MapEntry} {gs : List (K.ty × J.ty)} (h3 : es.map (fun e => (e.key, e.val)) = gs.map (fun g => (K.val g.1, J.val g.2))) (hd : gs.Pairwise fun a b => a.1 ≠ b.1) (w : World) (k : K.ty) :
    ((Instr.findKey kt (K.val k) es).run P w = .ok none w ∧ getG gs k = none ∧ ∀ e ∈ es, e.key ≠ K.val k) ∨ ∃ (j : Nat) (e : MapEntry) (g : K.ty × J.ty), (Instr.findKey kt (K.val k) es).run P w = .ok (some (j, J.val g.2)) w ∧ es[j]? = some e ∧ gs[j]? = some g ∧ e.key = K.val k ∧ g.1 = k ∧ getG gs k = some g.2 := by
  have hkey : ∀ e ∈ es, ∃ g ∈ gs, e.key = K.val g.1 ∧ e.val = J.val g.2 := by
    intro e he
    have : (e.key, e.val) ∈ gs.map (fun g => (K.val g.1, J.val g.2)) := by rw [← h3]; exact List.mem_map.2 ⟨e, he, rfl⟩
    obtain ⟨g, hg, e'⟩ := List.mem_map.1 this
    simp only [Prod.mk.injEq] at e'
    exact ⟨g, hg, e'.1.symm, e'.2.symm⟩
  have hkey2 : ∀ g ∈ gs, ∃ e ∈ es, e.key = K.val g.1 := by
    intro g hg
    have : (K.val g.1, J.val g.2) ∈ es.map (fun e => (e.key, e.val)) := by rw [h3]; exact List.mem_map.2 ⟨g, hg, rfl⟩
    obtain ⟨e, he, e'⟩ := List.mem_map.1 this
    simp only [Prod.mk.injEq] at e'
    exact ⟨e, he, e'.1⟩
  rcases hK.find w k es (fun e he => by obtain ⟨g, _, h, _⟩ := hkey e he; exact ⟨_, h⟩) with ⟨h1, h2⟩ | ⟨j, e, h1, h2, h4⟩
  · refine .inl ⟨h1, ?_, h2⟩
    unfold getG
    rw [List.find?_eq_none.2]
    · rfl
    · intro g hg
      obtain ⟨e, he, e'⟩ := hkey2 g hg
      have := h2 e he
      simp only [decide_eq_true_eq]
      intro h; subst h; exact this e'
  · have hj : (gs.map (fun g => (K.val g.1, J.val g.2)))[j]? = some (e.key, e.val) := by rw [← h3, List.getElem?_map, h2]; rfl
    rw [List.getElem?_map] at hj
    cases hg : gs[j]? with
    | none => rw [hg] at hj; simp at hj
    | some g =>
      rw [hg] at hj
      simp only [Option.map_some, Option.some.injEq, Prod.mk.injEq] at hj
      have hgk : g.1 = k := hK.inj _ _ (hj.1.trans h4)
      refine .inr ⟨j, e, g, by rw [h1, ← hj.2], h2, hg, h4, hgk, ?_⟩
      unfold getG
      have : gs.find? (fun g => decide (g.1 = k)) = some g := by
        rw [List.find?_eq_some_iff_getElem]
        obtain ⟨hlt, hge⟩ := List.getElem?_eq_some_iff.1 hg
        refine ⟨by simp [hgk], j, hlt, hge, fun i hi => ?_⟩
        have := List.pairwise_iff_getElem.1 hd i j (by omega) hlt hi
        rw [hge, hgk] at this
        simpa using this
      rw [this]; rfl
/-- The world with the map's block changed. -/
def setMap (w : World) (m : Nat) (o : Obj) : World := { w with heap := w.heap.setIfInBounds m o }
theorem setMap_step {w : World} {m : Nat} {o o' : Obj} (h : w.heap[m]? = some o) : Step (fun k => k = m) w (setMap w m o') ∧ (setMap w m o').heap[m]? = some o' ∧ (setMap w m o').heap.size = w.heap.size :=
  ⟨⟨rfl, rfl, rfl, by simp [setMap], fun k _ hn => (heap_set (o' := o') h).2 k hn⟩, (heap_set h).1, by simp [setMap]⟩
theorem Own.setM {M : Nat → Prop} {w0 w : World} {L : List Ent} (h : Own M w0 w L) (i : Nat) {K J : TI} {m : Nat} {gs gs' : List (K.ty × J.ty)} (hi : L[i]? = some (MapB K J m gs)) {es es' : Array MapEntry} {c c' : Nat} (hb : w.heap[m]? = some (.map es c))
    (h1 : Stamped es' c') (h2 : es'.toList.map (fun e => (e.key, e.val)) = gs'.map (fun g => (K.val g.1, J.val g.2))) : Own M w0 (setMap w m (.map es' c')) (L.set i (MapB K J m gs')) := by
  obtain ⟨s1, s2, s3⟩ := setMap_step (o' := .map es' c') hb
  have hlt : m < w.heap.size := (Array.getElem?_eq_some_iff.1 hb).1
  exact h.turn i hi s1 (fun k (hk : k = m) => ⟨.inl hk, by rw [s3, hk]; exact hlt⟩) ⟨es', c', s2, h1, h2⟩
theorem run_und {t : Nat} {d : TypeDesc} (h : P.underlying t = some d) (w : World) : (underlying t).run P w = .ok d w := run_underlying h w
theorem Own.lookup {M : Nat → Prop} {w0 w : World} {L : List Ent} (h : Own M w0 w L) (i : Nat) {K J : TI} [DecidableEq K.ty] {m t kt el : Nat} {gs : List (K.ty × J.ty)} (hi : L[i]? = some (MapB K J m gs)) (hK : KeyOk P kt K) (ht : P.underlying t = some (.map kt el))
    {z : J.ty} (hz : (zeroValue el).run P w = .ok (J.val z) w) (k : K.ty) : (Instr.lookup t (.map (some m)) (K.val k) true).run P w = .ok (.tuple #[J.val ((getG gs k).getD z), .bool (getG gs k).isSome]) w := by
  obtain ⟨es, c, h1, h2, h3⟩ := h.hold.at i hi
  rcases MapB.look hK h3 (MapB.keys hK h2 h3) w k with ⟨g1, g2, _⟩ | ⟨j, e, g, g1, _, _, _, _, g2⟩
  · simp [Instr.lookup, run_und ht, MapKept.run_getObj_map h1, hK.check, g1, g2, hz, Result.andThen]
  · simp [Instr.lookup, run_und ht, MapKept.run_getObj_map h1, hK.check, g1, g2, Result.andThen]
theorem Own.mapLen {M : Nat → Prop} {w0 w : World} {L : List Ent} (h : Own M w0 w L) (i : Nat) {K J : TI} {m t kt el ty : Nat} {gs : List (K.ty × J.ty)} (hi : L[i]? = some (MapB K J m gs)) (ht : P.underlying t = some (.map kt el)) :
    (Builtin.len_ #[t] ty #[.map (some m)]).run P w = .ok (.int .i64 gs.length) w := by
  obtain ⟨es, c, h1, h2, h3⟩ := h.hold.at i hi
  have : gs.length = es.size := by
    have := congrArg List.length h3
    simpa using this.symm
  simp [Builtin.len_, run_und ht, MapKept.run_getObj_map h1, Result.andThen, goInt, this]
theorem map_set_at {α β : Type} (f : α → β) : ∀ (l : List α) (i : Nat) (x : α), (l.set i x).map f = (l.map f).set i (f x)
  | [], _, _ => rfl
  | _ :: _, 0, _ => rfl
  | _ :: l, i + 1, x => by simp [map_set_at f l i x]
theorem set_as_map {κ ν : Type} [DecidableEq κ] (k : κ) (v : ν) : ∀ {gs : List (κ × ν)} {j : Nat} {g : κ × ν}, gs.Pairwise (fun a b => a.1 ≠ b.1) → gs[j]? = some g → g.1 = k → gs.set j (k, v) = gs.map fun g => if g.1 = k then (k, v) else g
  | [], _, _, _, h, _ => by simp at h
  | x :: gs, 0, g, hd, h, hk => by
    simp at h; subst h
    simp only [List.set_cons_zero, List.map_cons, hk, if_true]
    congr 1
    rw [← List.map_id gs, List.map_map]
    refine List.map_congr_left fun y hy => ?_
    have := (List.pairwise_cons.1 hd).1 y hy
    simp only [Function.comp, id]
    rw [if_neg (fun e => this (by rw [hk, e]))]
  | x :: gs, j + 1, g, hd, h, hk => by
    simp only [List.set_cons_succ, List.map_cons]
    have hm : g ∈ gs := List.mem_of_getElem? (by simpa using h)
    rw [if_neg (fun e => (List.pairwise_cons.1 hd).1 g hm (by rw [e, hk])), set_as_map k v (List.pairwise_cons.1 hd).2 (by simpa using h) hk]
theorem erase_as_filter {κ ν : Type} [DecidableEq κ] (k : κ) : ∀ {gs : List (κ × ν)} {j : Nat} {g : κ × ν}, gs.Pairwise (fun a b => a.1 ≠ b.1) → gs[j]? = some g → g.1 = k → gs.eraseIdx j = gs.filter fun g => decide (g.1 ≠ k)
  | [], _, _, _, h, _ => by simp at h
  | x :: gs, 0, g, hd, h, hk => by
    simp at h; subst h
    simp only [List.eraseIdx_cons_zero, List.filter_cons]
    rw [if_neg (by simp [hk])]
    refine (List.filter_eq_self.2 fun y hy => ?_).symm
    have := (List.pairwise_cons.1 hd).1 y hy
    simp only [decide_eq_true_eq]
    exact fun e => this (by rw [hk, e])
  | x :: gs, j + 1, g, hd, h, hk => by
    have hm : g ∈ gs := List.mem_of_getElem? (by simpa using h)
    have hx : x.1 ≠ k := fun e => (List.pairwise_cons.1 hd).1 g hm (by rw [e, hk])
    simp only [List.eraseIdx_cons_succ, List.filter_cons]
    rw [if_pos (by simp [hx]), erase_as_filter k (List.pairwise_cons.1 hd).2 (by simpa using h) hk]
theorem Own.mapPut {M : Nat → Prop} {w0 w : World} {L : List Ent} (h : Own M w0 w L) (i : Nat) {K J : TI} [DecidableEq K.ty] {m t kt el : Nat} {gs : List (K.ty × J.ty)} (hi : L[i]? = some (MapB K J m gs)) (hK : KeyOk P kt K) (ht : P.underlying t = some (.map kt el))
    (k : K.ty) (v : J.ty) {Kk : World → Prop} (hk : ∀ w', Own M w0 w' (L.set i (MapB K J m (putG gs k v))) → Kk w') : runU P (Instr.mapUpdate t (.map (some m)) (K.val k) (J.val v)) w Kk := by
  obtain ⟨es, c, h1, h2, h3⟩ := h.hold.at i hi
  have hd := MapB.keys hK h2 h3
  unfold runU
  rcases MapB.look hK h3 hd w k with ⟨g1, g2, g3⟩ | ⟨j, e, g, g1, g3, g4, g5, g6, g2⟩
  · have hr : (Instr.mapUpdate t (.map (some m)) (K.val k) (J.val v)).run P w = .ok () (setMap w m (.map (es.push { key := K.val k, val := J.val v, born := c }) (c + 1))) := by
      simp [Instr.mapUpdate, run_und ht, MapKept.run_getObj_map h1, hK.check, g1, MapKept.run_setObj_map _ h1, Result.andThen, setMap]
    rw [hr]
    refine hk _ (h.setM i hi h1 (stamped_push h2 g3) ?_)
    have hany : gs.any (fun g => decide (g.1 = k)) = false := by
      rw [List.any_eq_false]
      intro g hg
      unfold getG at g2
      have := List.find?_eq_none.1 (Option.map_eq_none_iff.1 g2) g hg
      simpa using this
    unfold putG
    rw [hany]
    simp [h3]
  · have hlt : j < es.size := by have := (List.getElem?_eq_some_iff.1 g3).1; simpa using this
    have hej : es[j]? = some e := by rw [← g3]; simp
    have hr : (Instr.mapUpdate t (.map (some m)) (K.val k) (J.val v)).run P w = .ok () (setMap w m (.map (es.modify j fun e => { e with key := K.val k, val := J.val v }) c)) := by
      simp [Instr.mapUpdate, run_und ht, MapKept.run_getObj_map h1, hK.check, g1, hej, g5, hK.stays, MapKept.run_setObj_map _ h1, Result.andThen, setMap]
    rw [hr]
    refine hk _ (h.setM i hi h1 (stamped_modify h2 j _ (fun _ _ => rfl) (fun e' _ he' => ?_)) ?_)
    · rw [hej] at he'; cases he'; exact g5.symm
    · have hany : gs.any (fun g => decide (g.1 = k)) = true := by
        rw [List.any_eq_true]
        exact ⟨g, List.mem_of_getElem? g4, by simp [g6]⟩
      unfold putG
      rw [hany]
      simp only [if_true]
      rw [← set_as_map k v hd g4 g6, map_set_at]
      have hmod : (es.modify j fun e => { e with key := K.val k, val := J.val v }).toList = es.toList.set j { e with key := K.val k, val := J.val v } := by
        rw [Array.toList_modify, List.modify_eq_set, g3]; rfl
      rw [hmod, map_set_at, h3]
theorem Own.mapDel {M : Nat → Prop} {w0 w : World} {L : List Ent} (h : Own M w0 w L) (i : Nat) {K J : TI} [DecidableEq K.ty] {m t kt el ty : Nat} {gs : List (K.ty × J.ty)} (hi : L[i]? = some (MapB K J m gs)) (hK : KeyOk P kt K) (ht : P.underlying t = some (.map kt el)) {I : TI} (u : I.ty) (hu : I.of (.tuple #[]) = some u)
    (k : K.ty) {Kk : I.ty → World → Prop} (hk : ∀ w', Own M w0 w' (L.set i (MapB K J m (delG gs k))) → Kk u w') : runT P I (Builtin.delete_ #[t, kt] ty #[.map (some m), K.val k]) w Kk := by
  obtain ⟨es, c, h1, h2, h3⟩ := h.hold.at i hi
  have hd := MapB.keys hK h2 h3
  unfold runT
  rcases MapB.look hK h3 hd w k with ⟨g1, g2, g3⟩ | ⟨j, e, g, g1, g3, g4, g5, g6, g2⟩
  · have hr : (Builtin.delete_ #[t, kt] ty #[.map (some m), K.val k]).run P w = .ok (.tuple #[]) (setMap w m (.map es c)) := by
      simp [Builtin.delete_, run_und ht, MapKept.run_getObj_map h1, hK.check, g1, MapKept.run_setObj_map _ h1, Result.andThen, setMap]
    rw [hr]
    simp only [ofK, hu]
    refine hk _ (h.setM i hi h1 h2 ?_)
    have : delG gs k = gs := by
      unfold delG
      refine List.filter_eq_self.2 fun g hg => ?_
      unfold getG at g2
      have := List.find?_eq_none.1 (Option.map_eq_none_iff.1 g2) g hg
      simpa using this
    rw [this]; exact h3
  · have hlt : j < es.size := by have := (List.getElem?_eq_some_iff.1 g3).1; simpa using this
    have hr : (Builtin.delete_ #[t, kt] ty #[.map (some m), K.val k]).run P w = .ok (.tuple #[]) (setMap w m (.map (es.eraseIdxIfInBounds j) c)) := by
      simp [Builtin.delete_, run_und ht, MapKept.run_getObj_map h1, hK.check, g1, MapKept.run_setObj_map _ h1, Result.andThen, setMap]
    rw [hr]
    simp only [ofK, hu]
    refine hk _ (h.setM i hi h1 (stamped_erase h2 j) ?_)
    unfold delG
    rw [← erase_as_filter k hd g4 g6]
    have : (es.eraseIdxIfInBounds j).toList = es.toList.eraseIdx j := by simp [Array.eraseIdxIfInBounds, hlt]
    rw [this]
    have he : ∀ {α β : Type} (f : α → β) (l : List α) (j : Nat), (l.eraseIdx j).map f = (l.map f).eraseIdx j := fun f l j => by
      induction l generalizing j with
      | nil => rfl
      | cons x l ih => cases j with
        | zero => rfl
        | succ j => simp [ih]
    rw [he, he, h3]
/-- A new map. -/
theorem Own.newMap {M : Nat → Prop} {w0 w : World} {L : List Ent} (h : Own M w0 w L) (K J : TI) {k : Nat → World → Prop}
    (hk : ∀ b w', Own M w0 w' (MapB K J b [] :: L) → Ext w w' → k b w') : NewK (.map #[] 0) w k := by
  intro w' hx hsz hb
  refine hk _ w' (h.push hx (fun k hk => ?_) ⟨#[], 0, hb, stamped_empty 0, rfl⟩) hx
  have hk' : k = w.heap.size := hk
  subst hk'
  exact ⟨Nat.le_refl _, by omega⟩
/-- A reader of a map in a nest. -/
theorem NOwn.lookup {M : Nat → Prop} {w0 v : World} {th : Th} {L : List Ent} (h : NOwn M w0 v th L) (i : Nat) {K J : TI} [DecidableEq K.ty] {m t kt el : Nat} {gs : List (K.ty × J.ty)} (hi : L[i]? = some (MapB K J m gs)) (hK : KeyOk P kt K) (ht : P.underlying t = some (.map kt el))
    {z : J.ty} (hz : ∀ w, (zeroValue el).run P w = .ok (J.val z) w) (k : K.ty) {I : TI} (mk : J.ty → Bool → I.ty) (hI : ∀ g b, I.of (.tuple #[J.val g, .bool b]) = some (mk g b)) {Kk : I.ty → Prop} (hk : Kk (mk ((getG gs k).getD z) (getG gs k).isSome)) :
    gRd P I th (Instr.lookup t (.map (some m)) (K.val k) true) Kk :=
  ⟨_, fun W hW => by
    unfold runT
    rw [(h.here W hW).lookup i hi hK ht (hz W) k]
    simp only [ofK, hI]
    simp, hk⟩
theorem Own.lookupT {M : Nat → Prop} {w0 w : World} {L : List Ent} (h : Own M w0 w L) (i : Nat) {K J : TI} [DecidableEq K.ty] {m t kt el : Nat} {gs : List (K.ty × J.ty)} (hi : L[i]? = some (MapB K J m gs)) (hK : KeyOk P kt K) (ht : P.underlying t = some (.map kt el))
    {z : J.ty} (hz : ∀ w, (zeroValue el).run P w = .ok (J.val z) w) (k : K.ty) {I : TI} (mk : J.ty → Bool → I.ty) (hI : ∀ g b, I.of (.tuple #[J.val g, .bool b]) = some (mk g b)) {Kk : I.ty → World → Prop} (hk : Kk (mk ((getG gs k).getD z) (getG gs k).isSome) w) :
    runT P I (Instr.lookup t (.map (some m)) (K.val k) true) w Kk := by
  unfold runT
  rw [h.lookup i hi hK ht (hz w) k]
  simp only [ofK, hI]
  exact hk
end Go.Wf

namespace Go.Wf
open Go Go.RowKit
variable {P : Program} {T : TT}
/-! ### Slices of slices -/
def subS (s : Sl) (z l h m : Nat) : Sl := ⟨if m = l then s.a else s.a.map (·.add (l * z)), h - l, m - l⟩
def Subs (P : Program) (t z : Nat) (a : Option Addr) (n c : Nat) (lo hi mx : Option Value) (l h m : Nat) : Prop :=
  ∀ w, (Instr.sliceAt t (.slice a n c) lo hi mx).run P w = .ok (.slice (subS ⟨a, n, c⟩ z l h m).a (subS ⟨a, n, c⟩ z l h m).n (subS ⟨a, n, c⟩ z l h m).c) w
theorem ElOk.elem {t el z bytes : Nat} (he : ElOk P t el z bytes) : P.underlying t = some (.slice (P.elem t)) ∧ P.elem t = el ∧ ∀ w, (sizeOf (P.elem t)).run P w = .ok z w := by
  obtain ⟨inf, zv, g1, g2, g3, g4, g5⟩ := he.info
  have hel : P.elem t = el := by simp [Program.elem, he.under]
  refine ⟨by rw [hel]; exact he.under, hel, fun w => ?_⟩
  rw [hel]
  simp [sizeOf, typeInfo, g1, Result.andThen, g3]
theorem subs_l {t el z bytes : Nat} (he : ElOk P t el z bytes) {a : Option Addr} {n c : Nat} {k : IntKind} {l : Int} (h0 : 0 ≤ l) (h1 : l ≤ n) : Subs P t z a n c (some (.int k l)) none none l.toNat n c := fun w => by
  obtain ⟨h, _, hz⟩ := he.elem
  rw [run_sliceAt_slice _ _ _ _ _ _ h, run_slice_l _ _ _ _ _ h _ _ h0 h1, hz]; rfl
theorem subs_lh {t el z bytes : Nat} (he : ElOk P t el z bytes) {a : Option Addr} {n c : Nat} {k k' : IntKind} {l h : Int} (h0 : 0 ≤ l) (h1 : l ≤ h) (h2 : h ≤ c) : Subs P t z a n c (some (.int k l)) (some (.int k' h)) none l.toNat h.toNat c := fun w => by
  obtain ⟨hh, _, hz⟩ := he.elem
  rw [run_sliceAt_slice _ _ _ _ _ _ hh, run_slice_lh _ _ _ _ _ hh _ _ _ _ h0 h1 h2, hz]; rfl
theorem subs_lhm {t el z bytes : Nat} (he : ElOk P t el z bytes) {a : Option Addr} {n c : Nat} {k k' k'' : IntKind} {l h m : Int} (h0 : 0 ≤ l) (h1 : l ≤ h) (h2 : h ≤ m) (h3 : m ≤ c) : Subs P t z a n c (some (.int k l)) (some (.int k' h)) (some (.int k'' m)) l.toNat h.toNat m.toNat := fun w => by
  obtain ⟨hh, _, hz⟩ := he.elem
  rw [run_sliceAt_slice _ _ _ _ _ _ hh, run_slice_lhm _ _ _ _ _ hh _ _ _ _ _ _ h0 h1 h2 h3, hz]; rfl
theorem subs_hm {t el z bytes : Nat} (he : ElOk P t el z bytes) {a : Option Addr} {n c : Nat} {k k' : IntKind} {h m : Int} (h0 : 0 ≤ h) (h2 : h ≤ m) (h3 : m ≤ c) : Subs P t z a n c none (some (.int k h)) (some (.int k' m)) 0 h.toNat m.toNat := fun w => by
  obtain ⟨hh, _, hz⟩ := he.elem
  rw [run_sliceAt_slice _ _ _ _ _ _ hh, run_slice_hm _ _ _ _ _ hh _ _ _ _ h0 h2 h3, hz]; rfl
theorem Subs.g {t z : Nat} {a : Option Addr} {n c : Nat} {lo hi mx : Option Value} {l h m : Nat} (hs : Subs P t z a n c lo hi mx l h m) {th : Th} {I : TI} (mkI : Sl → I.ty) (hI : ∀ s : Sl, I.of (.slice s.a s.n s.c) = some (mkI s)) {k : I.ty → Prop} (hk : k (mkI (subS ⟨a, n, c⟩ z l h m))) : gRd P I th (Instr.sliceAt t (.slice a n c) lo hi mx) k :=
  ⟨_, fun W _ => by
    unfold runT
    rw [hs W]
    simp only [ofK, hI]
    simp, hk⟩
theorem Subs.r {t z : Nat} {a : Option Addr} {n c : Nat} {lo hi mx : Option Value} {l h m : Nat} (hs : Subs P t z a n c lo hi mx l h m) {w : World} {I : TI} (mkI : Sl → I.ty) (hI : ∀ s : Sl, I.of (.slice s.a s.n s.c) = some (mkI s)) {k : I.ty → World → Prop} (hk : k (mkI (subS ⟨a, n, c⟩ z l h m)) w) : runT P I (Instr.sliceAt t (.slice a n c) lo hi mx) w k := by
  unfold runT
  rw [hs w]
  simp only [ofK, hI]
  exact hk
theorem SlT.sub {I : TI} {z : Nat} (hI : WrOk I z) {w : World} {S : Nat → Prop} {s : Sl} {l : List I.ty} (h : SlT I w S s l) {L H M : Nat} (h1 : L ≤ H) (h2 : H ≤ M) (h3 : H ≤ s.n) : SlT I w S (subS s z L H M) ((l.drop L).take (H - L)) := by
  have hn := h.1
  refine ⟨by simp [subS, List.length_take, List.length_drop]; omega, by simp [subS]; omega, ?_⟩
  by_cases hLH : L = H
  · left; simp [hLH]
  right
  rcases h.2.2 with h0 | ⟨a, ha, hs, hc⟩
  · rw [h0] at hn; simp at hn; omega
  refine ⟨a.add (L * z), by simp only [subS]; rw [if_neg (by omega), ha]; rfl, by rw [add_block]; exact hs, hc.sub _ fun i v hv => ?_⟩
  have e : l.flatMap (wrT I) = (l.take L).flatMap (wrT I) ++ (((l.drop L).take (H - L)).flatMap (wrT I) ++ ((l.drop L).drop (H - L)).flatMap (wrT I)) := by
    rw [← List.flatMap_append, List.take_append_drop, ← List.flatMap_append, List.take_append_drop]
  have hlen : ((l.take L).flatMap (wrT I)).length = L * z := by rw [flat_len (c := wrT I) hI.len, List.length_take]; congr 1; omega
  rw [e, List.getElem?_append_right (by omega), hlen, Nat.add_sub_cancel_left, List.getElem?_append_left (List.getElem?_eq_some_iff.1 hv).1, hv]
/-! ### The iterator's call -/
theorem iterK.of {I : TI} {g : Nat} {y : Value} {cap : Array Value} {w : World} {k : World → Prop} (h : callK P T I (.func (.func g) #[] #[]) (y :: cap.toList) w fun _ w' => k w') (hT : T.fn g = true) : iterK P T (.func (.func g) #[] cap) y w k := by
  unfold iterK
  unfold callK at h
  simp only [hT] at h ⊢
  have e : ((#[] : Array Value).toList ++ (y :: cap.toList) ++ (#[] : Array Value).toList).toArray = ((#[] : Array Value).toList ++ [y] ++ cap.toList).toArray := by simp
  rw [e] at h
  refine h.mono (fun q w' hq => ?_)
  cases q with
  | returned v =>
    simp only [Ret] at hq ⊢
    unfold ofK at hq
    split at hq
    · exact hq
    · exact hq.elim
  | _ => exact hq.elim
end Go.Wf

namespace Go.Wf
open Go Go.RowKit
variable {P : Program} {T : TT}
/-! ### Records of loops over functions -/
def Rec (l : Nat) (o : Obj) : Ent := ⟨fun k => k = l, fun w => w.heap[l]? = some o, fun w w' h hf => by rw [h l rfl]; exact hf⟩
theorem Own.recs {M : Nat → Prop} {w0 w w' : World} {L : List Ent} (h : Own M w0 w L) (hx : Ext w w') (hsz : w'.heap.size = w.heap.size + 2) {o o' : Obj} (hd : w'.heap[w.heap.size]? = some o) (hl : w'.heap[w.heap.size + 1]? = some o') :
    Own M w0 w' (Rec (w.heap.size + 1) o' :: Rec w.heap.size o :: L) where
  step := (h.ext hx).step
  hold := ⟨hl, hd, (h.ext hx).hold⟩
  bnd := ⟨fun k (hk : k = _) => ⟨.inr (by have := h.step.size; omega), by omega⟩, fun k (hk : k = _) => ⟨.inr (by have := h.step.size; omega), by omega⟩, (h.ext hx).bnd⟩
  disj := ⟨⟨fun k (h1 : k = _) (h2 : k = _) => by omega, h.bnd.imp fun e he k (h1 : k = _) h2 => by have := (he k h2).2; omega⟩, h.bnd.imp fun e he k (h1 : k = _) h2 => by have := (he k h2).2; omega, h.disj⟩
theorem Upd.step {w w' : World} {l : Nat} {o : Obj} (h : Upd w l o w') : Step (fun k => k = l) w w' := ⟨h.os, h.tape, h.output, Nat.le_of_eq h.size.symm, fun k _ hn => h.other k hn⟩
theorem Own.upd {M : Nat → Prop} {w0 w w' : World} {L : List Ent} (h : Own M w0 w L) (i : Nat) {l : Nat} {o o' : Obj} (hi : L[i]? = some (Rec l o)) (hu : Upd w l o' w') : Own M w0 w' (L.set i (Rec l o')) :=
  h.turn i hi hu.step (fun k (hk : k = l) => ⟨.inl hk, by rw [hu.size]; subst hk; exact (Array.getElem?_eq_some_iff.1 (h.hold.at i hi)).1⟩) hu.here
/-- An element of an own row is written in part. -/
theorem Own.rowSt {M : Nat → Prop} {w0 w : World} {L : List Ent} (h : Own M w0 w L) (i : Nat) {J : TI} {el z : Nat} (hJ : WrOk J z) {s : Sl} {l : List J.ty} (hi : L[i]? = some (RowT J el z s l)) {a : Addr} (ha : s.a = some a) {e : Nat} {v v' : J.ty} (hv : l[e]? = some v)
    {off : Nat} {cs : List Value} (hcs : off + cs.length ≤ z) (hw : wrT J v' = setAt off cs (wrT J v)) {b : Addr} (hb : b = (a.add (e * z)).add off) {K : World → Prop} (hk : ∀ w', Own M w0 w' (L.set i (RowT J el z s (l.set e v'))) → K w') : StoreK b cs w K := by
  have hF : (RowT J el z s l).F w := h.hold.at i hi
  have hrow : w.ownsRow 0 el z (.slice s.a s.n s.c) s.n (l.flatMap (wrT J)) := hF
  obtain ⟨hlt, hve⟩ := List.getElem?_eq_some_iff.1 hv
  have hlen : (l.flatMap (wrT J)).length = l.length * z := len_flat hJ l
  have hn : s.n = l.length := RowT.len hJ hF
  have hlz : e * z + z ≤ l.length * z := by rw [← Nat.succ_mul]; exact Nat.mul_le_mul_right z hlt
  rcases hrow with ⟨h1, ⟨hv0, _⟩ | ⟨g, cap, cur, hv0, _, hblk, hcap, hmax, hsz, htake⟩⟩
  · simp only [Value.slice.injEq] at hv0; rw [ha] at hv0; cases hv0.1
  simp only [Value.slice.injEq] at hv0
  obtain ⟨hv1, hv2, hv3⟩ := hv0
  rw [ha] at hv1
  cases hv1
  have hbb : b.block = g := by rw [hb, add_block, add_block]
  have hbo : b.off = e * z + off := by rw [hb]; simp [add_off]
  have hbs : b.spot = none := by rw [hb]; exact add_spot (add_spot rfl _) _
  have hin : e * z + off + cs.length ≤ cur.size := by
    rw [hsz]
    have : l.length * z ≤ cap * z := Nat.mul_le_mul_right z (by omega)
    omega
  refine ⟨⟨hbs, cur, el, 0, 0, by rw [hbb]; exact hblk, by rw [hbo]; exact hin, fun j _ _ => by simp⟩, fun w' hw' => hk w' ?_⟩
  refine h.write i hi hw' ⟨_, ha, hbb.symm⟩ (fun _ h => h) ?_
  obtain ⟨cs', g1, g2, g3⟩ := hw'.cells _ el (0, 0) (by rw [hbb]; exact hblk)
  rw [hbb] at g1
  have hlset : (l.set e v').length = l.length := by simp
  refine ⟨by rw [len_flat hJ, hlset, ← hlen]; exact h1, .inr ⟨g, cap, cs', by simp only [ha, hv3], Nat.zero_le _, g1, hcap, hmax, by rw [g2]; exact hsz, ?_⟩⟩
  have hl1 : l = l.take e ++ v :: l.drop (e + 1) := by rw [← hve, ← List.drop_eq_getElem_cons hlt, List.take_append_drop]
  have hl2 : l.set e v' = l.take e ++ v' :: l.drop (e + 1) := by rw [List.set_eq_take_append_cons_drop, if_pos hlt]
  have ht : ((l.take e).flatMap (wrT J)).length = e * z := by rw [len_flat hJ, List.length_take]; congr 1; omega
  have hvz : (wrT J v).length = z := hJ.len v
  have hvz' : (wrT J v').length = z := hJ.len v'
  have e1 : cur.toList.take (s.n * z) = (l.take e).flatMap (wrT J) ++ (wrT J v ++ (l.drop (e + 1)).flatMap (wrT J)) := by
    rw [htake]; conv => lhs; rw [hl1]
    simp
  have e2 : (l.set e v').flatMap (wrT J) = (l.take e).flatMap (wrT J) ++ (wrT J v' ++ (l.drop (e + 1)).flatMap (wrT J)) := by
    rw [hl2]; simp
  rw [e2]
  apply List.ext_getElem?
  intro j
  have hcur : ∀ j, j < s.n * z → cur[j]? = ((l.take e).flatMap (wrT J) ++ (wrT J v ++ (l.drop (e + 1)).flatMap (wrT J)))[j]? := fun j hj => by
    rw [← e1, List.getElem?_take_of_lt hj]; simp
  rw [hn] at hcur ⊢
  by_cases hj : j < l.length * z
  · rw [List.getElem?_take_of_lt hj, Array.getElem?_toList, g3 j, hbo]
    by_cases hj1 : j < e * z
    · rw [if_neg (by omega), hcur j hj, List.getElem?_append_left (by omega), List.getElem?_append_left (by omega)]
    · rw [List.getElem?_append_right (by omega), ht]
      by_cases hj2 : j < e * z + z
      · rw [List.getElem?_append_left (by omega), hw]
        simp only [setAt]
        by_cases hj3 : e * z + off ≤ j ∧ j < e * z + off + cs.length
        · rw [if_pos hj3, List.append_assoc, List.getElem?_append_right (by rw [List.length_take]; omega), List.getElem?_append_left (by rw [List.length_take]; omega)]
          congr 1
          rw [List.length_take]; omega
        · rw [if_neg hj3, hcur j hj, List.getElem?_append_right (by omega), ht, List.getElem?_append_left (by omega)]
          by_cases hj4 : j < e * z + off
          · rw [List.append_assoc, List.getElem?_append_left (by rw [List.length_take]; omega), List.getElem?_take_of_lt (by omega)]
          · rw [List.append_assoc, List.getElem?_append_right (by rw [List.length_take]; omega), List.getElem?_append_right (by rw [List.length_take]; omega), List.getElem?_drop]
            congr 1
            rw [List.length_take]; omega
      · rw [if_neg (by omega), hcur j hj, List.getElem?_append_right (by omega), ht, List.getElem?_append_right (by omega), List.getElem?_append_right (by omega), hvz, hvz']
  · rw [List.getElem?_eq_none (by rw [List.length_take]; omega), List.getElem?_eq_none]
    have : ((l.drop (e + 1)).flatMap (wrT J)).length = (l.length - (e + 1)) * z := by rw [len_flat hJ, List.length_drop]
    simp only [List.length_append, ht, hvz', this]
    have : e * z + (z + (l.length - (e + 1)) * z) = l.length * z := by
      rw [← Nat.add_assoc, ← Nat.succ_mul, ← Nat.add_mul]
      congr 1
      omega
    omega
end Go.Wf

namespace Go.Wf
open Go Go.RowKit
variable {P : Program} {T : TT}
/-- append onto a slice that is full: new memory, or nothing is written. -/
theorem append_full {w : World} {t ty el z bytes : Nat} {J : TI} (hJ : WrOk J z) (he : ElOk P t el z bytes) {s x : Sl} {S S' : Nat → Prop} {l l' : List J.ty} (hs : SlT J w S s l) (hfull : s.n = s.c) (hsa : ∃ b, s.a = some b) (hx : SlT J w S' x l')
    (hb : (l.length + l'.length) * (bytes + 1) ≤ 70368744177664) {I : TI} (mkI : Sl → I.ty) (hI : ∀ s : Sl, I.of (.slice s.a s.n s.c) = some (mkI s))
    {K : I.ty → World → Prop} (hk : ∀ r w', Ext w w' → SlT J w' (fun k => S k ∨ newB w w' k) r (l ++ l') → K (mkI r) w') : runT P I (Builtin.append_ #[t, t] ty #[.slice s.a s.n s.c, .slice x.a x.n x.c]) w K := by
  obtain ⟨inf, zv, g1, g2, g3, g4, g5⟩ := he.info
  obtain ⟨b, hb'⟩ := hsa
  have hlen := hx.len
  have hslen := hs.len
  unfold runT
  by_cases hl : l' = []
  · subst hl
    have hn : x.n = 0 := by simpa using hlen
    have : (Builtin.append_ #[t, t] ty #[.slice s.a s.n s.c, .slice x.a x.n x.c]).run P w = .ok (.slice s.a s.n s.c) w := by
      rw [hn, hb']
      have : s.n ≤ s.c := hs.2.1
      cases x.a <;> simp [Builtin.append_, run_underlying he.under, sizeOf, typeInfo, g1, Builtin.lenOf, Builtin.firstCells, storeCells, loadCells, loadCellsFrom, this]
    rw [this]
    simp only [ofK, hI s]
    refine hk _ _ (Ext.refl _) ?_
    rw [List.append_nil]
    exact hs.mono fun k hk => .inl hk
  · obtain ⟨a, ha, _, hc⟩ := hx.2.2.resolve_left hl
    have hl0 : 0 < l'.length := List.length_pos_iff.2 hl
    have hb1 : l.length + l'.length ≤ 70368744177664 := Nat.le_trans (Nat.le_mul_of_pos_right _ (by omega)) hb
    have hb2 : (l.length + l'.length) * bytes ≤ 70368744177664 := Nat.le_trans (Nat.mul_le_mul_left _ (by omega)) hb
    have hold : ∀ j v, (l.flatMap (wrT J))[j]? = some v → w.cell? (b.add j) = some v := by
      rcases hs.2.2 with h0 | ⟨b', hb'', _, hcc⟩
      · subst h0; simp
      · rw [hb'] at hb''; cases hb''; exact fun j v hv => hcc j v hv
    have hcap : Builtin.nextslicecap (s.n + x.n) s.c * inf.bytes ≤ 281474976710656 := by
      have h1 := nextslicecap_le (need := s.n + x.n) (old := s.c) (by omega)
      rw [g4]
      have h2 : Builtin.nextslicecap (s.n + x.n) s.c * bytes ≤ 2 * (s.n + x.n) * bytes := Nat.mul_le_mul_right _ h1
      rw [hslen, hlen] at h2 ⊢
      rw [Nat.mul_assoc] at h2
      omega
    have hr := run_append_grow (P := P) w t ty el inf zv he.under g1 g2 b s.n s.c (l.flatMap (wrT J)) (by rw [len_flat hJ, hslen, g3]) hold a x.n x.c (l'.flatMap (wrT J)) (by rw [len_flat hJ, hlen, g3]) (fun j v hv => hc j v hv) (by omega) (by rw [hlen, hslen]; omega) hcap
    rw [hb', ha, hr]
    simp only [ofK, hI ⟨some ⟨w.heap.size, 0, none⟩, s.n + x.n, grownCap w (s.n + x.n) s.c el⟩]
    have hex : Ext w (w.drew.alloc (.cells ((((l.flatMap (wrT J))).toArray ++ (l'.flatMap (wrT J)).toArray ++ Builtin.zeroCells zv.cells (grownCap w (s.n + x.n) s.c el - (s.n + x.n)))) el)) :=
      ⟨rfl, rfl, rfl, by simp, fun k hk _ => heap_alloc_old w.drew _ k hk⟩
    have hcap2 : s.n + x.n ≤ grownCap w (s.n + x.n) s.c el := grownCap_ge w (s.n + x.n) s.c el
    refine hk _ _ hex ⟨by simp [hslen, hlen], hcap2, .inr ⟨_, rfl, .inr ⟨Nat.le_refl _, by simp⟩, fun i v hv => ?_⟩⟩
    have hnew := heap_alloc_new w.drew (.cells ((((l.flatMap (wrT J))).toArray ++ (l'.flatMap (wrT J)).toArray ++ Builtin.zeroCells zv.cells (grownCap w (s.n + x.n) s.c el - (s.n + x.n)))) el)
    have h1 : ((⟨w.heap.size, 0, none⟩ : Addr).add i).block = w.heap.size := add_block _ _
    have h2 : ((⟨w.heap.size, 0, none⟩ : Addr).add i).off = i := by rw [add_off]; simp
    have h3 : ((⟨w.heap.size, 0, none⟩ : Addr).add i).spot = none := add_spot rfl i
    simp only [World.cell?, h1, h2, h3]
    rw [show w.heap.size = w.drew.heap.size from rfl, hnew]
    rw [List.flatMap_append] at hv
    have hlt := (List.getElem?_eq_some_iff.1 hv).1
    rw [List.length_append] at hlt
    show (((l.flatMap (wrT J))).toArray ++ (l'.flatMap (wrT J)).toArray ++ Builtin.zeroCells zv.cells (grownCap w (s.n + x.n) s.c el - (s.n + x.n)))[i]? = some v
    rw [Array.getElem?_append_left (by simpa using hlt)]
    simpa using hv
theorem Own.appL {M : Nat → Prop} {w0 w : World} {L : List Ent} {G X : Type} {R : Rdr G X} {N N' : Nat → Prop} {gs gs' : List G} {xs xs' : List X} (h : Own M w0 w (R.list.ent N' gs' xs' :: R.list.ent N gs xs :: L)) :
    Own M w0 w (R.list.ent (fun k => N' k ∨ N k) (gs ++ gs') (xs ++ xs') :: L) :=
  h.merge (fun _ hk => hk) fun h1 h2 => All2.app (All2.imp (fun _ _ => R.mono fun _ => .inr) (show All2 (R.R w N) gs xs from h2)) (All2.imp (fun _ _ => R.mono fun _ => .inl) (show All2 (R.R w N') gs' xs' from h1))
end Go.Wf
