/- A part of the proof: lemmas; nothing is claimed here. -/
import Derived.Test.YtkeecncgfhgnpaaWEnter
import Derived.Maps.AppendAt
import Derived.Laws.Slices
set_option linter.all false
namespace Go.Wf
open Go Go.RowKit
variable {P : Program} {T : TT}

/-! ### What is known of the heap: entries on disjoint blocks -/
structure Ent where
  N : Nat → Prop
  F : World → Prop
  fr : ∀ w w' : World, (∀ k, N k → w'.heap[k]? = w.heap[k]?) → F w → F w'
def Var (b : Nat) (t : Nat) (l : List Value) : Ent where
  N := fun k => k = b
  F := fun w => w.heap[b]? = some (.cells l.toArray t (0, 0))
  fr := fun w w' h hf => by rw [h b rfl]; exact hf
def AllE (f : Ent → Prop) : List Ent → Prop
  | [] => True
  | e :: L => f e ∧ AllE f L
def Disj (e e' : Ent) : Prop := ∀ k, e.N k → e'.N k → False
def DisjAll : List Ent → Prop
  | [] => True
  | e :: L => AllE (Disj e) L ∧ DisjAll L
structure Own (M : Nat → Prop) (w0 w : World) (L : List Ent) : Prop where
  step : Step M w0 w
  hold : AllE (fun e => e.F w) L
  bnd : AllE (fun e => ∀ k, e.N k → (M k ∨ w0.heap.size ≤ k) ∧ k < w.heap.size) L
  disj : DisjAll L

theorem AllE.imp {f g : Ent → Prop} (h : ∀ e, f e → g e) : ∀ {L : List Ent}, AllE f L → AllE g L
  | [], _ => trivial
  | _ :: _, hL => ⟨h _ hL.1, AllE.imp h hL.2⟩
theorem AllE.and {f g : Ent → Prop} : ∀ {L : List Ent}, AllE f L → AllE g L → AllE (fun e => f e ∧ g e) L
  | [], _, _ => trivial
  | _ :: _, h, k => ⟨⟨h.1, k.1⟩, AllE.and h.2 k.2⟩
theorem AllE.at {f : Ent → Prop} : ∀ {L : List Ent} (_ : AllE f L) (i : Nat) {e : Ent}, L[i]? = some e → f e
  | [], _, _, _, h => by simp at h
  | _ :: _, hL, 0, _, h => by simp at h; subst h; exact hL.1
  | _ :: _, hL, i + 1, _, h => AllE.at hL.2 i (by simpa using h)

theorem Step.trans {M : Nat → Prop} {a b c : World} (h : Step M a b) (k : Step (fun x => M x ∨ a.heap.size ≤ x) b c) : Step M a c :=
  ⟨k.os.trans h.os, k.tape.trans h.tape, k.output.trans h.output, Nat.le_trans h.size k.size, fun i hi hn => by
    rw [k.block i (Nat.lt_of_lt_of_le hi h.size) (fun hh => hh.elim hn (fun h2 => by omega)), h.block i hi hn]⟩
theorem Step.mono {M M' : Nat → Prop} {a b : World} (h : Step M a b) (hm : ∀ k, M k → M' k) : Step M' a b :=
  ⟨h.os, h.tape, h.output, h.size, fun i hi hn => h.block i hi fun hh => hn (hm i hh)⟩
theorem Step.refl (M : Nat → Prop) (a : World) : Step M a a := ⟨rfl, rfl, rfl, Nat.le_refl _, fun _ _ _ => rfl⟩

theorem Own.start (M : Nat → Prop) (w : World) : Own M w w [] := ⟨Step.refl M w, trivial, trivial, trivial⟩
/-- A step that leaves the entries' blocks alone. -/
theorem Own.ext {M : Nat → Prop} {w0 w w' : World} {L : List Ent} (h : Own M w0 w L) (hx : Ext w w') : Own M w0 w' L where
  step := h.step.trans (hx.mono fun _ hk => hk.elim)
  hold := (h.hold.and h.bnd).imp fun e he => e.fr w w' (fun k hk => hx.block k (he.2 k hk).2 (fun hh => hh.elim)) he.1
  bnd := h.bnd.imp fun e he k hk => ⟨(he k hk).1, Nat.lt_of_lt_of_le (he k hk).2 hx.size⟩
  disj := h.disj
/-- What a call has made. -/
theorem Own.push {M : Nat → Prop} {w0 w w' : World} {L : List Ent} (h : Own M w0 w L) (hx : Ext w w') {e : Ent} (hN : ∀ k, e.N k → newB w w' k) (hF : e.F w') : Own M w0 w' (e :: L) where
  step := (h.ext hx).step
  hold := ⟨hF, (h.ext hx).hold⟩
  bnd := ⟨fun k hk => ⟨.inr (Nat.le_trans h.step.size (hN k hk).1), (hN k hk).2⟩, (h.ext hx).bnd⟩
  disj := ⟨h.bnd.imp fun e' he k hk hk' => by
    have h1 := (hN k hk).1
    have h2 := (he k hk').2
    omega, h.disj⟩
theorem Own.new {M : Nat → Prop} {w0 w : World} {L : List Ent} (h : Own M w0 w L) {cs : Array Value} {t : Nat} {k : Nat → World → Prop}
    (hk : ∀ b w', Own M w0 w' (Var b t cs.toList :: L) → Ext w w' → k b w') : NewK (.cells cs t) w k := by
  intro w' hx hsz hb
  refine hk _ w' (h.push hx (fun k hk => ?_) (by simpa [Var] using hb)) hx
  have hk' : k = w.heap.size := hk
  subst hk'
  exact ⟨Nat.le_refl _, by omega⟩
theorem CellsAt.of {w : World} {b t : Nat} {l cs : List Value} {fr : Nat × Nat} (h : w.heap[b]? = some (.cells l.toArray t fr)) (n : Nat) (hc : ∀ i v, cs[i]? = some v → l[n + i]? = some v) : CellsAt w ((bx b).add n) cs := by
  intro i v hv
  have h1 : (((bx b).add n).add i).block = b := by rw [add_block, add_block]
  have h2 : (((bx b).add n).add i).off = n + i := by simp [add_off]
  have h3 : (((bx b).add n).add i).spot = none := add_spot (add_spot rfl n) i
  simp only [World.cell?, h1, h, h2, h3]
  simpa using hc i v hv
/-- A load out of a local. -/
theorem Own.ld {M : Nat → Prop} {w0 w : World} {L : List Ent} (h : Own M w0 w L) (i n : Nat) {b t : Nat} {l r : List Value} {a : Addr} {I : TI} {p : I.ty} {K : I.ty → Prop} (hi : L[i]? = some (Var b t l))
    (ha : a = (bx b).add n) (hc : l.drop n = cellsT I (I.val p) ++ r) (hk : K p) : ldK I w a K := by
  subst ha
  have hF : w.heap[b]? = some (.cells l.toArray t (0, 0)) := h.hold.at i hi
  refine ⟨p, CellsAt.of hF n fun j v hv => ?_, hk⟩
  have : (l.drop n)[j]? = some v := by
    rw [hc, List.getElem?_append_left (List.getElem?_eq_some_iff.1 hv).1, hv]
  simpa using this
/-- A load of what an entry knows. -/
theorem ldK.mk {I : TI} {w : World} {a : Addr} {p : I.ty} {K : I.ty → Prop} (h : CellsAt w a (cellsT I (I.val p))) (hk : K p) : ldK I w a K := ⟨p, h, hk⟩
theorem AllE.set {f g : Ent → Prop} : ∀ {L : List Ent} (_ : AllE f L) (i : Nat) (e' : Ent), (∀ (j : Nat) e, L[j]? = some e → j ≠ i → f e → g e) → g e' → AllE g (L.set i e')
  | [], _, _, _, _, _ => trivial
  | _ :: L, hL, 0, e', hg, he' => ⟨he', AllE.set0 hL.2 fun j e hj => hg (j + 1) e (by simpa using hj) (by omega)⟩
  | x :: L, hL, i + 1, e', hg, he' => ⟨hg 0 x (by simp) (by omega) hL.1, AllE.set hL.2 i e' (fun j e hj hne => hg (j + 1) e (by simpa using hj) (by omega)) he'⟩
where
  AllE.set0 {f g : Ent → Prop} : ∀ {L : List Ent} (_ : AllE f L), (∀ (j : Nat) e, L[j]? = some e → f e → g e) → AllE g L
  | [], _, _ => trivial
  | x :: L, hL, hg => ⟨hg 0 x (by simp) hL.1, AllE.set0 hL.2 fun j e hj => hg (j + 1) e (by simpa using hj)⟩
theorem DisjAll.pair : ∀ {L : List Ent} (_ : DisjAll L) {i j : Nat} {e e' : Ent}, L[i]? = some e → L[j]? = some e' → i ≠ j → Disj e e'
  | [], _, _, _, _, _, h, _, _ => by simp at h
  | x :: L, hL, 0, 0, _, _, _, _, h => absurd rfl h
  | x :: L, hL, 0, j + 1, e, e', hi, hj, _ => by simp at hi; subst hi; exact hL.1.at j (by simpa using hj)
  | x :: L, hL, i + 1, 0, e, e', hi, hj, _ => by
    simp at hj; subst hj
    have := hL.1.at i (by simpa using hi)
    exact fun k h1 h2 => this k h2 h1
  | x :: L, hL, i + 1, j + 1, e, e', hi, hj, h => DisjAll.pair hL.2 (i := i) (j := j) (by simpa using hi) (by simpa using hj) (by omega)
theorem DisjAll.set : ∀ {L : List Ent} (_ : DisjAll L) (i : Nat) {e e' : Ent}, L[i]? = some e → (∀ k, e'.N k → e.N k) → DisjAll (L.set i e')
  | [], _, _, _, _, _, _ => trivial
  | x :: L, hL, 0, e, e', hi, hN => by
    simp at hi; subst hi
    exact ⟨hL.1.imp fun y hy k h1 h2 => hy k (hN k h1) h2, hL.2⟩
  | x :: L, hL, i + 1, e, e', hi, hN => by
    have hi' : L[i]? = some e := by simpa using hi
    exact ⟨AllE.set hL.1 i e' (fun _ _ _ _ h => h) (fun k h1 h2 => hL.1.at i hi' k h1 (hN k h2)), DisjAll.set hL.2 i hi' hN⟩
theorem Step.wrote {M : Nat → Prop} {w0 w w' : World} {a : Addr} {cs : List Value} (h : Step M w0 w) (hw : Wrote a cs w w') (hb : M a.block ∨ w0.heap.size ≤ a.block) : Step M w0 w' where
  os := hw.os.trans h.os
  tape := hw.tape.trans h.tape
  output := hw.output.trans h.output
  size := by rw [hw.size]; exact h.size
  block := fun k hk hn => by
    rw [hw.other k (fun e => by subst e; rcases hb with hb | hb; exact hn hb; omega)]
    exact h.block k hk hn
/-- One entry's blocks are written. -/
theorem Own.write {M : Nat → Prop} {w0 w w' : World} {L : List Ent} (h : Own M w0 w L) (i : Nat) {e e' : Ent} (hi : L[i]? = some e) {a : Addr} {cs : List Value} (hw : Wrote a cs w w') (ha : e.N a.block)
    (hN : ∀ k, e'.N k → e.N k) (hF : e'.F w') : Own M w0 w' (L.set i e') where
  step := h.step.wrote hw (h.bnd.at i hi _ ha).1
  hold := h.hold.set i e' (fun j x hj hne hx => x.fr w w' (fun k hk => hw.other k fun he => by
    subst he
    exact h.disj.pair hj hi hne _ hk ha) hx) hF
  bnd := h.bnd.set i e' (fun j x hj hne hx k hk => by rw [hw.size]; exact hx k hk) (fun k hk => by rw [hw.size]; exact h.bnd.at i hi k (hN k hk))
  disj := h.disj.set i hi hN
/-- A store into a local. -/
theorem Own.st {M : Nat → Prop} {w0 w : World} {L : List Ent} (h : Own M w0 w L) (i n : Nat) {b t : Nat} {l cs : List Value} {a : Addr} {K : World → Prop} (hi : L[i]? = some (Var b t l))
    (ha : a = (bx b).add n) (hn : Nat.ble (n + cs.length) l.length = true) (hk : ∀ w', Own M w0 w' (L.set i (Var b t (setAt n cs l))) → K w') : StoreK a cs w K := by
  subst ha
  have hF : w.heap[b]? = some (.cells l.toArray t (0, 0)) := h.hold.at i hi
  have hn' : n + cs.length ≤ l.length := Nat.le_of_ble_eq_true hn
  have hblk : ((bx b).add n).block = b := add_block _ _
  have hoff : ((bx b).add n).off = n := by simp [add_off]
  refine ⟨⟨add_spot rfl n, l.toArray, t, 0, 0, by rw [hblk]; exact hF, by rw [hoff]; simpa using hn', fun j _ _ => by simp⟩, fun w' hw => hk w' ?_⟩
  refine h.write i hi hw (show ((bx b).add n).block = b from hblk) (fun _ h => h) ?_
  obtain ⟨cs', h1, h2, h3⟩ := hw.cells _ t (0, 0) (by rw [hblk]; exact hF)
  rw [hblk] at h1
  show w'.heap[b]? = _
  rw [h1]
  have : cs' = (setAt n cs l).toArray := by
    apply Array.ext_getElem?
    intro j
    rw [h3 j, hoff]
    simp only [List.getElem?_toArray, setAt]
    by_cases hj : n ≤ j ∧ j < n + cs.length
    · rw [if_pos hj, List.append_assoc, List.getElem?_append_right (by simp; omega), List.getElem?_append_left (by simp; omega)]
      congr 1
      simp; omega
    · rw [if_neg hj]
      by_cases h4 : j < n
      · rw [List.append_assoc, List.getElem?_append_left (by simp; omega), List.getElem?_take_of_lt h4]
      · rw [List.append_assoc, List.getElem?_append_right (by simp; omega), List.getElem?_append_right (by simp; omega), List.getElem?_drop]
        congr 1
        simp; omega
  rw [this]

theorem DisjAll.set' : ∀ {L : List Ent} (_ : DisjAll L) (i : Nat) {e e' : Ent}, L[i]? = some e → (∀ (j : Nat) x, L[j]? = some x → j ≠ i → Disj x e') → DisjAll (L.set i e')
  | [], _, _, _, _, _, _ => trivial
  | x :: L, hL, 0, e, e', hi, hN => by
    simp at hi; subst hi
    exact ⟨AllE.set.AllE.set0 hL.1 fun j y hj _ k h1 h2 => hN (j + 1) y (by simpa using hj) (by omega) k h2 h1, hL.2⟩
  | x :: L, hL, i + 1, e, e', hi, hN => by
    have hi' : L[i]? = some e := by simpa using hi
    exact ⟨AllE.set hL.1 i e' (fun _ _ _ _ h => h) (hN 0 x (by simp) (by omega)), DisjAll.set' hL.2 i hi' fun j y hj hne => hN (j + 1) y (by simpa using hj) (by omega)⟩
/-- One entry turns into another, on its own blocks and on new ones. -/
theorem Own.turn {M : Nat → Prop} {w0 w w' : World} {L : List Ent} (h : Own M w0 w L) (i : Nat) {e e' : Ent} (hi : L[i]? = some e) (hs : Step (fun k => e.N k) w w')
    (hN : ∀ k, e'.N k → (e.N k ∨ w.heap.size ≤ k) ∧ k < w'.heap.size) (hF : e'.F w') : Own M w0 w' (L.set i e') where
  step := h.step.trans (hs.mono fun k hk => (h.bnd.at i hi k hk).1)
  hold := (h.hold.and h.bnd).set i e' (fun j x hj hne hx => x.fr w w' (fun k hk => hs.block k (hx.2 k hk).2 fun he => h.disj.pair hj hi hne _ hk he) hx.1) hF
  bnd := h.bnd.set i e' (fun j x hj hne hx k hk => ⟨(hx k hk).1, Nat.lt_of_lt_of_le (hx k hk).2 hs.size⟩) (fun k hk => ⟨by
    rcases (hN k hk).1 with h1 | h1
    · exact (h.bnd.at i hi k h1).1
    · exact .inr (Nat.le_trans h.step.size h1), (hN k hk).2⟩)
  disj := h.disj.set' i hi fun j x hj hne k h1 h2 => by
    rcases (hN k h2).1 with h3 | h3
    · exact h.disj.pair hj hi hne k h1 h3
    · have := (h.bnd.at j hj k h1).2
      omega

/-! ### Rows that are the call's own -/
def Row (e z : Nat) (s : Sl) (xs : List Value) : Ent where
  N := fun k => ∃ a, s.a = some a ∧ a.block = k
  F := fun w => w.ownsRow 0 e z (.slice s.a s.n s.c) s.n xs
  fr := fun w w' h hf => ⟨hf.1, hf.2.imp id fun ⟨g, cap, cur, h1, h2, h3, h4⟩ => ⟨g, cap, cur, h1, h2, by
    simp only [Value.slice.injEq] at h1
    rw [h g ⟨_, h1.1, rfl⟩]; exact h3, h4⟩⟩
/-- Cells that stand one behind the other. -/
def CellsIn (w : World) (s : Sl) (news : List Value) : Prop := news = [] ∨ ∃ a, s.a = some a ∧ CellsAt w a news
/-- What is asked of an element's type. -/
structure ElOk (P : Program) (t el z bytes : Nat) : Prop where
  under : P.underlying t = some (.slice el)
  info : ∃ inf zv, P.info? el = some inf ∧ inf.zero = some zv ∧ inf.size = z ∧ inf.bytes = bytes ∧ zv.cells.size = z
  pos : 0 < z
theorem run_append_none {w : World} {t ty el z bytes : Nat} (he : ElOk P t el z bytes) {s : Sl} (hc : s.n ≤ s.c) (x : Sl) (hx : x.a = none) (hn : x.n = 0) :
    (Builtin.append_ #[t, t] ty #[.slice s.a s.n s.c, .slice x.a x.n x.c]).run P w = .ok (.slice s.a s.n s.c) w := by
  obtain ⟨inf, zv, h1, h2, h3, h4, h5⟩ := he.info
  rw [hx, hn]
  cases hs : s.a <;> simp [Builtin.append_, run_underlying he.under, sizeOf, typeInfo, h1, Builtin.lenOf, hc, Builtin.firstCells, storeCells]
theorem Own.append {M : Nat → Prop} {w0 w : World} {L : List Ent} (h : Own M w0 w L) (i : Nat) {t ty el z bytes : Nat} (he : ElOk P t el z bytes) {I : TI} (mkI : Sl → I.ty) (hI : ∀ s : Sl, I.of (.slice s.a s.n s.c) = some (mkI s))
    {s x : Sl} {xs news : List Value} {K : I.ty → World → Prop} (hi : L[i]? = some (Row el z s xs)) (hlen : news.length = x.n * z) (hx : CellsIn w x news) (hxn : x.a = none → x.n = 0) (h1 : ∀ u ∈ news, u.oneCell' = true)
    (hb : (s.n + x.n) * (bytes + 1) ≤ 140737488355328)
    (hk : ∀ s' w', Own M w0 w' (L.set i (Row el z s' (xs ++ news))) → s'.n = s.n + x.n → K (mkI s') w') :
    runT P I (Builtin.append_ #[t, t] ty #[.slice s.a s.n s.c, .slice x.a x.n x.c]) w K := by
  have hF : (Row el z s xs).F w := h.hold.at i hi
  have hrow : w.ownsRow 0 el z (.slice s.a s.n s.c) s.n xs := hF
  have hb1 : (s.n + x.n) * bytes ≤ 140737488355328 := Nat.le_trans (Nat.mul_le_mul_left _ (by omega)) hb
  have hb2 : s.n + x.n ≤ maxLen := by
    have : s.n + x.n ≤ (s.n + x.n) * (bytes + 1) := Nat.le_mul_of_pos_right _ (by omega)
    simp only [maxLen]; omega
  unfold runT
  cases hxa : x.a with
  | none =>
    have hn := hxn hxa
    have hnil : news = [] := List.eq_nil_of_length_eq_zero (by rw [hlen, hn]; simp)
    have hcap : s.n ≤ s.c := by
      rcases hrow.2 with ⟨hv, _⟩ | ⟨g, cap, cur, hv, _, _, hc, _⟩
      · simp only [Value.slice.injEq] at hv; omega
      · simp only [Value.slice.injEq] at hv; omega
    have := run_append_none (P := P) (ty := ty) (w := w) he hcap x hxa hn
    rw [hxa] at this
    rw [this]
    simp only [ofK, hI]
    refine hk s w ?_ (by omega)
    rw [hnil, List.append_nil]
    have hset : L.set i (Row el z s xs) = L := by
      apply List.ext_getElem?
      intro j
      by_cases hj : j = i
      · subst hj; rw [List.getElem?_set_self (List.getElem?_eq_some_iff.1 hi).1, hi]
      · rw [List.getElem?_set_ne (Ne.symm hj)]
    rw [hset]; exact h
  | some a =>
    obtain ⟨inf, zv, g1, g2, g3, g4, g5⟩ := he.info
    have hcells : ∀ (j : Nat) (u : Value), news[j]? = some u → w.cell? (a.add j) = some u := by
      intro j u hu
      rcases hx with hx | ⟨a', ha', hx⟩
      · rw [hx] at hu; simp at hu
      · rw [hxa] at ha'; cases ha'; exact hx j u hu
    obtain ⟨v', w', hr, r1, r2, _, r4⟩ := run_append_own_at (P := P) w 0 t ty el inf zv z bytes he.under g1 g2 g3 g4 g5 he.pos (.slice s.a s.n s.c) s.n xs hrow a x.n x.c news hlen hcells h1 hb2 hb1 (Nat.zero_le _)
    rw [hr]
    have key : ∀ s' : Sl, v' = .slice s'.a s'.n s'.c → s'.n = s.n + x.n → ofK I v' fun p => K p w' := fun s' hv hn' => by
      subst hv
      simp only [ofK, hI]
      refine hk s' w' (h.turn i hi ⟨r2.os, r2.tape, r2.output, r2.size, fun k hkk hnk => r2.block k hkk fun hkr => hnk ?_⟩ (fun k hkN => ?_) (by rw [← hn'] at r1; exact r1)) hn'
      · cases hsa : s.a with
        | none => rw [hsa] at hkr; cases hkr
        | some b => rw [hsa] at hkr; simp only [Value.ownBlock, Option.some.injEq] at hkr; exact ⟨b, hsa, hkr.symm⟩
      · obtain ⟨b, hb', rfl⟩ := hkN
        have hlt : b.block < w'.heap.size := by
          rcases r1.2 with ⟨hv, _⟩ | ⟨g, cap, cur, hv, _, hg, _⟩
          · simp only [Value.slice.injEq, hb'] at hv; cases hv.1
          · simp only [Value.slice.injEq, hb', Option.some.injEq] at hv
            rw [hv.1]
            exact (Array.getElem?_eq_some_iff.1 hg).1
        refine ⟨?_, hlt⟩
        rcases r4 with r4 | r4
        · rw [hb'] at r4
          cases hsa : s.a with
          | none => rw [hsa] at r4; cases r4
          | some c => rw [hsa] at r4; simp only [Value.ownBlock, Option.some.injEq] at r4; exact .inl ⟨c, hsa, r4.symm⟩
        · rw [hb'] at r4
          simp only [Value.ownBlock, Option.some.injEq] at r4
          exact .inr (by omega)
    rcases r1.2 with ⟨hv, hn'⟩ | ⟨g, cap, cur, hv, _⟩
    · exact key ⟨none, 0, 0⟩ hv (by simp; omega)
    · exact key ⟨some ⟨g, 0, none⟩, s.n + x.n, cap⟩ hv rfl

/-- An entry seen otherwise. -/
theorem Own.cast {M : Nat → Prop} {w0 w : World} {L : List Ent} (h : Own M w0 w L) (i : Nat) {e e' : Ent} (hi : L[i]? = some e) (hN : ∀ k, e'.N k → e.N k) (hF : e.F w → e'.F w) : Own M w0 w (L.set i e') where
  step := h.step
  hold := h.hold.set i e' (fun _ _ _ _ h => h) (hF (h.hold.at i hi))
  bnd := h.bnd.set i e' (fun _ _ _ _ h => h) (fun k hk => h.bnd.at i hi k (hN k hk))
  disj := h.disj.set i hi hN
/-- An entry that takes no block. -/
theorem Own.pure {M : Nat → Prop} {w0 w : World} {L : List Ent} (h : Own M w0 w L) {e : Ent} (hN : ∀ k, ¬ e.N k) (hF : e.F w) : Own M w0 w (e :: L) where
  step := h.step
  hold := ⟨hF, h.hold⟩
  bnd := ⟨fun k hk => absurd hk (hN k), h.bnd⟩
  disj := ⟨h.hold.imp fun _ _ k hk => absurd hk (hN k), h.disj⟩
theorem Own.nil {M : Nat → Prop} {w0 w : World} {L : List Ent} (h : Own M w0 w L) (el z : Nat) : Own M w0 w (Row el z ⟨none, 0, 0⟩ [] :: L) :=
  h.pure (fun _ ⟨_, h, _⟩ => by cases h) ⟨by simp, .inl ⟨rfl, rfl⟩⟩
/-- Entries that are given at the start: they lie in M. -/
theorem Own.give {M : Nat → Prop} {w : World} {L : List Ent} (h : Own M w w L) {e : Ent} (hN : ∀ k, e.N k → M k ∧ k < w.heap.size) (hd : AllE (Disj e) L) (hF : e.F w) : Own M w w (e :: L) where
  step := h.step
  hold := ⟨hF, h.hold⟩
  bnd := ⟨fun k hk => ⟨.inl (hN k hk).1, (hN k hk).2⟩, h.bnd⟩
  disj := ⟨hd, h.disj⟩
/-- A fresh row, full. -/
theorem Own.row {M : Nat → Prop} {w0 w : World} {L : List Ent} (h : Own M w0 w L) (i z n : Nat) {b t : Nat} {l : List Value} (hi : L[i]? = some (Var b t l)) (hl : l.length = n * z) (hn : n ≤ maxLen) :
    Own M w0 w (L.set i (Row t z ⟨some (bx b), n, n⟩ l)) :=
  h.cast i hi (fun k ⟨a, ha, hk⟩ => by cases ha; exact hk.symm) fun hF => ⟨hl, .inr ⟨b, n, l.toArray, rfl, Nat.zero_le _, hF, Nat.le_refl _, hn, by simp [hl], by simp [← hl]⟩⟩

/-! ### Slices that are read -/
def Rdf (z : Nat) (s : Sl) (xs : List Value) : Ent where
  N := fun k => xs ≠ [] ∧ ∃ a, s.a = some a ∧ a.block = k
  F := fun w => xs.length = s.n * z ∧ s.n ≤ s.c ∧ CellsIn w s xs
  fr := fun w w' h hf => ⟨hf.1, hf.2.1, by
    rcases hf.2.2 with h0 | ⟨a, ha, hc⟩
    · exact .inl h0
    · by_cases hx : xs = []
      · exact .inl hx
      · refine .inr ⟨a, ha, fun i v hv => ?_⟩
        have := hc i v hv
        simp only [World.cell?, add_block] at this ⊢
        rw [h a.block ⟨hx, a, ha, rfl⟩]
        exact this⟩
theorem CellsAt.ext {w w' : World} {a : Addr} {cs : List Value} (h : CellsAt w a cs) (hx : Ext w w') : CellsAt w' a cs := fun i v hv => by
  have := h i v hv
  simp only [World.cell?] at this ⊢
  cases hb : w.heap[(a.add i).block]? with
  | none => simp [hb] at this
  | some o =>
    rw [hx.at hb]
    simpa [hb] using this
theorem CellsAt.step {M : Nat → Prop} {w w' : World} {a : Addr} {cs : List Value} (h : CellsAt w a cs) (hx : Step M w w') (hm : ¬ M a.block) : CellsAt w' a cs := fun i v hv => by
  have := h i v hv
  simp only [World.cell?, add_block] at this ⊢
  cases hb : w.heap[a.block]? with
  | none => simp [hb] at this
  | some o =>
    rw [hx.block _ (Array.getElem?_eq_some_iff.1 hb).1 hm, hb]
    simpa [hb] using this
theorem CellsIn.ext {w w' : World} {s : Sl} {cs : List Value} (h : CellsIn w s cs) (hx : Ext w w') : CellsIn w' s cs := h.imp id fun ⟨a, ha, hc⟩ => ⟨a, ha, hc.ext hx⟩
theorem Rdf.ext {w w' : World} {z : Nat} {s : Sl} {cs : List Value} (h : (Rdf z s cs).F w) (hx : Ext w w') : (Rdf z s cs).F w' := ⟨h.1, h.2.1, CellsIn.ext h.2.2 hx⟩
theorem CellsAt.sub {w : World} {a : Addr} {cs ds : List Value} (h : CellsAt w a cs) (n : Nat) (hd : ∀ i v, ds[i]? = some v → cs[n + i]? = some v) : CellsAt w (a.add n) ds := fun i v hv => by
  rw [add_add]
  exact h (n + i) v (hd i v hv)
theorem Row.rdf {w : World} {el z : Nat} {s : Sl} {xs : List Value} (h : (Row el z s xs).F w) : (Rdf z s xs).F w := by
  refine ⟨h.1, by
    rcases h.2 with ⟨hv, hn⟩ | ⟨g, cap, cur, hv, _, hg, hc, _⟩
    · omega
    · simp only [Value.slice.injEq] at hv; omega, ?_⟩
  rcases h.2 with ⟨hv, hn⟩ | ⟨g, cap, cur, hv, _, hg, hc, _, hsz, ht⟩
  · exact .inl (List.eq_nil_of_length_eq_zero (by rw [h.1, hn]; simp))
  · simp only [Value.slice.injEq] at hv
    refine .inr ⟨⟨g, 0, none⟩, hv.1, fun i v hv' => ?_⟩
    have : cur.toList[i]? = some v := by
      have h1 := hv'
      rw [← ht, List.getElem?_take] at h1
      split at h1
      · exact h1
      · cases h1
    have hb : ((⟨g, 0, none⟩ : Addr).add i).block = g := add_block _ _
    have ho : ((⟨g, 0, none⟩ : Addr).add i).off = i := by simp [add_off]
    have hs : ((⟨g, 0, none⟩ : Addr).add i).spot = none := add_spot rfl i
    simp only [World.cell?, hb, hg, ho, hs]
    simpa using this
/-- The own row, from now on only read. -/
theorem Own.rdf {M : Nat → Prop} {w0 w : World} {L : List Ent} (h : Own M w0 w L) (i : Nat) {el z : Nat} {s : Sl} {xs : List Value} (hi : L[i]? = some (Row el z s xs)) : Own M w0 w (L.set i (Rdf z s xs)) :=
  h.cast i hi (fun _ hk => hk.2) Row.rdf
/-- Element j of a slice of typed elements. -/
theorem flat_at {α : Type} {c : α → List Value} {z : Nat} (hz : ∀ x, (c x).length = z) : ∀ (l : List α) (j : Nat) (x : α), l[j]? = some x → ∀ (i : Nat) (v : Value), (c x)[i]? = some v → (l.flatMap c)[j * z + i]? = some v
  | [], _, _, h, _, _, _ => by simp at h
  | y :: l, 0, x, h, i, v, hv => by
    simp at h; subst h
    rw [List.flatMap_cons, List.getElem?_append_left (by have := (List.getElem?_eq_some_iff.1 hv).1; omega)]
    simpa using hv
  | y :: l, j + 1, x, h, i, v, hv => by
    rw [List.flatMap_cons, List.getElem?_append_right (by rw [hz, Nat.succ_mul]; omega)]
    have := flat_at hz l j x (by simpa using h) i v hv
    rw [hz, Nat.succ_mul, show j * z + z + i - z = j * z + i by omega]
    exact this
theorem flat_len {α : Type} {c : α → List Value} {z : Nat} (hz : ∀ x, (c x).length = z) (l : List α) : (l.flatMap c).length = l.length * z := by
  induction l with
  | nil => simp
  | cons y l ih => rw [List.flatMap_cons, List.length_append, ih, hz, List.length_cons, Nat.succ_mul, Nat.add_comm]
/-- Element j is loaded. -/
theorem Rdf.at {α : Type} {c : α → List Value} {z : Nat} (hz : ∀ x, (c x).length = z) {w : World} {s : Sl} {l : List α} (h : (Rdf z s (l.flatMap c)).F w) (hzp : 0 < z) {j : Int} {k : Addr → Prop} (hj : 0 ≤ j) (hlt : j < l.length)
    (hk : ∀ a, CellsAt w a (c (l[j.toNat]'(by omega))) → k a) : idxK s.a s.n j z k := by
  have hn : s.n = l.length := by
    have := h.1
    rw [flat_len hz] at this
    exact (Nat.eq_of_mul_eq_mul_right hzp this).symm
  have hjl : j.toNat < l.length := by omega
  refine ⟨⟨hj, by rw [hn]; exact hlt⟩, ?_⟩
  rcases h.2.2 with h0 | ⟨a, ha, hc⟩
  · have := congrArg List.length h0
    rw [flat_len hz] at this
    simp only [List.length_nil, Nat.mul_eq_zero] at this
    omega
  · exact ⟨a, ha, hk _ (hc.sub _ fun i v hv => flat_at hz l j.toNat _ (by simp [hjl]) i v hv)⟩
theorem Rdf.len {α : Type} {c : α → List Value} {z : Nat} (hz : ∀ x, (c x).length = z) {w : World} {s : Sl} {l : List α} (h : (Rdf z s (l.flatMap c)).F w) (hzp : 0 < z) : s.n = l.length := by
  have := h.1
  rw [flat_len hz] at this
  exact (Nat.eq_of_mul_eq_mul_right hzp this).symm

/-! ### In a nest -/
theorem Own.gld {M : Nat → Prop} {w0 w : World} {L : List Ent} (h : Own M w0 w L) {th : Th} (hG : ∀ W, th.G W → Ext w W) (i n : Nat) {b t : Nat} {l r : List Value} {a : Addr} {I : TI} {p : I.ty} {K : I.ty → Prop} (hi : L[i]? = some (Var b t l))
    (ha : a = (bx b).add n) (hc : l.drop n = cellsT I (I.val p) ++ r) (hk : K p) : gLd I th a K :=
  ⟨p, fun W hW => by
    obtain ⟨q, hq, he⟩ := Own.ld (K := fun q => q = p) (h.ext (hG W hW)) i n hi ha hc rfl
    subst he
    exact hq, hk⟩
theorem gLd.mk {I : TI} {th : Th} {w : World} {a : Addr} {p : I.ty} {K : I.ty → Prop} (hG : ∀ W, th.G W → Ext w W) (h : CellsAt w a (cellsT I (I.val p))) (hk : K p) : gLd I th a K :=
  ⟨p, fun W hW => h.ext (hG W hW), hk⟩
/-- A call whose value is known and that makes nothing to keep. -/
theorem gEff.val {R : Type} {th : Th} {F : World → (R → World → Prop) → Prop} {k : R → (Nat → Prop) → Th → Prop} (v : R) (hrun : ∀ W, th.G W → F W fun r W' => Ext W W' ∧ r = v)
    (hk : ∀ N th', (∀ W, th'.G W → th.G W) → k v N th') : gEff th F k :=
  ⟨fun r _ _ => r = v, fun _ _ _ _ h _ => h, fun W hW => hrun W hW, fun r N _ ⟨_, _, hr⟩ => by
    subst hr
    exact hk N _ fun W hW => hW.1⟩

/-! ### Slicing -/
theorem run_sliceTo {w : World} {t el z bytes : Nat} (he : ElOk P t el z bytes) (a : Option Addr) (n c : Nat) {j : Int} (h0 : 0 ≤ j) (h1 : j ≤ c) :
    (Instr.sliceAt t (.slice a n c) none (some (.int .i64 j)) none).run P w = .ok (.slice a j.toNat c) w := by
  obtain ⟨inf, zv, g1, g2, g3, g4, g5⟩ := he.info
  have hel : P.elem t = el := by simp [Program.elem, he.under]
  have hu : P.underlying t = some (.slice (P.elem t)) := by rw [hel]; exact he.under
  rw [run_sliceAt_slice _ _ _ _ _ _ hu, run_slice_h _ _ _ _ _ hu _ _ h0 h1, hel]
  simp [sizeOf, typeInfo, g1, Result.andThen, sliced]
  intro h
  cases a <;> simp [Addr.add]
theorem Rdf.to {w : World} {z : Nat} {s : Sl} {xs : List Value} (h : (Rdf z s xs).F w) {j : Nat} (hj : j ≤ s.n) : (Rdf z ⟨s.a, j, s.c⟩ (xs.take (j * z))).F w := by
  refine ⟨?_, Nat.le_trans hj h.2.1, ?_⟩
  · rw [List.length_take, h.1, Nat.min_eq_left (Nat.mul_le_mul_right z hj)]
  · rcases h.2.2 with h0 | ⟨a, ha, hc⟩
    · exact .inl (by rw [h0]; simp)
    · refine .inr ⟨a, ha, fun i v hv => hc i v ?_⟩
      rw [List.getElem?_take] at hv
      split at hv
      · exact hv
      · cases hv
theorem gRd.to {th : Th} {t el z bytes : Nat} (he : ElOk P t el z bytes) {I : TI} (mkI : Sl → I.ty) (hI : ∀ s : Sl, I.of (.slice s.a s.n s.c) = some (mkI s)) {a : Option Addr} {n c : Nat} {j : Int} (h0 : 0 ≤ j) (h1 : j ≤ c)
    {k : I.ty → Prop} (hk : k (mkI ⟨a, j.toNat, c⟩)) : gRd P I th (Instr.sliceAt t (.slice a n c) none (some (.int .i64 j)) none) k :=
  ⟨mkI ⟨a, j.toNat, c⟩, fun W _ => by
    unfold runT
    rw [run_sliceTo he a n c h0 h1]
    simp only [ofK, hI ⟨a, j.toNat, c⟩]
    exact ⟨trivial, trivial⟩, hk⟩
theorem runT.to {w : World} {t el z bytes : Nat} (he : ElOk P t el z bytes) {I : TI} (mkI : Sl → I.ty) (hI : ∀ s : Sl, I.of (.slice s.a s.n s.c) = some (mkI s)) {a : Option Addr} {n c : Nat} {j : Int} (h0 : 0 ≤ j) (h1 : j ≤ c)
    {k : I.ty → World → Prop} (hk : k (mkI ⟨a, j.toNat, c⟩) w) : runT P I (Instr.sliceAt t (.slice a n c) none (some (.int .i64 j)) none) w k := by
  unfold runT
  rw [run_sliceTo he a n c h0 h1]
  simp only [ofK, hI ⟨a, j.toNat, c⟩]
  exact hk
def elB (P : Program) (t el z bytes : Nat) : Bool := (match P.underlying t with | some (.slice e) => Nat.beq e el | _ => false) &&
  ((match P.info? el with | some i => (match i.zero with | some v => Nat.beq i.size z && (Nat.beq i.bytes bytes && Nat.beq v.cells.size z) | none => false) | none => false) && Nat.blt 0 z)
theorem elOk_of {t el z bytes : Nat} (h : elB P t el z bytes = true) : ElOk P t el z bytes := by
  simp only [elB, Bool.and_eq_true] at h
  obtain ⟨h1, h2, h3⟩ := h
  refine ⟨?_, ?_, by simpa [Nat.blt_eq] using h3⟩
  · split at h1
    · rename_i e he; rw [he, Nat.eq_of_beq_eq_true h1]
    · cases h1
  · split at h2
    · rename_i i hi
      split at h2
      · rename_i v hv
        simp only [Bool.and_eq_true] at h2
        exact ⟨i, v, hi, hv, Nat.eq_of_beq_eq_true h2.1, Nat.eq_of_beq_eq_true h2.2.1, Nat.eq_of_beq_eq_true h2.2.2⟩
      · cases h2
    · cases h2
theorem flat_take {α : Type} {c : α → List Value} {z : Nat} (hz : ∀ x, (c x).length = z) : ∀ (l : List α) (j : Nat), (l.flatMap c).take (j * z) = (l.take j).flatMap c
  | [], j => by simp
  | x :: l, 0 => by simp
  | x :: l, j + 1 => by
    rw [List.take_succ_cons, List.flatMap_cons, List.flatMap_cons, List.take_append, ← flat_take hz l j, hz, Nat.succ_mul, show j * z + z - z = j * z by omega, List.take_of_length_le (by rw [hz]; omega)]
theorem Rdf.toL {α : Type} {c : α → List Value} {z : Nat} (hz : ∀ x, (c x).length = z) {w : World} {s : Sl} {l : List α} (h : (Rdf z s (l.flatMap c)).F w) {j : Nat} (hj : j ≤ s.n) : (Rdf z ⟨s.a, j, s.c⟩ ((l.take j).flatMap c)).F w := by
  rw [← flat_take hz]; exact Rdf.to h hj
end Go.Wf
