/- A part of the proof: lemmas; nothing is claimed here. -/
import Derived.Test.YtkeecncgfhgnpaaWLp
import Derived.ChangeArms
import Derived.ChangeSame
import Derived.SizedLaws
import Derived.Carry
import Derived.WideShapes
import Derived.ProofKit
set_option linter.all false
namespace Go.Wf
open Go Go.RowKit
variable {H : Type} {enc : TypeId × Value → H} {P : Program} {w : World} {sp : Nat → Bool} {held : Bool}

/-! ### How arguments are opened -/
/-- What is known of the cells of a value of type t that can be read. -/
def OpenF (enc : TypeId × Value → H) (P : Program) (w : World) (sp : Nat → Bool) (held : Bool) (t : Nat) (C : List Value → Prop) : Prop :=
  ∀ fuel cs x, DataW.trod enc P w 0 sp held fuel t cs = some x → (∀ n ∈ x.1.weights P t, n ≤ reachBytes) → C cs
theorem OpenF.imp {t : Nat} {C C' : List Value → Prop} (h : OpenF enc P w sp held t C) (hc : ∀ cs, C cs → C' cs) : OpenF enc P w sp held t C' := fun f cs x h1 h2 => hc _ (h f cs x h1 h2)
theorem open_int {t : Nat} {k : IntKind} (hu : P.underlying t = some (.int k)) : OpenF enc P w sp held t fun cs => ∃ n, cs = [.int k n] ∧ (Lit.int k n).wf = true := fun f cs x h _ => by
  obtain ⟨n, rfl, _, hw⟩ := DataW.trod_int hu h
  exact ⟨n, rfl, hw⟩
theorem open_bool {t : Nat} (hu : P.underlying t = some .bool) : OpenF enc P w sp held t fun cs => ∃ b, cs = [.bool b] := fun f cs x h _ => by
  obtain ⟨n, rfl, _⟩ := DataW.trod_bool hu h
  exact ⟨n, rfl⟩
theorem weights_all {e : Nat} : ∀ {l : List (DataW H)} {d : DataW H}, d ∈ l → ∀ n ∈ d.weights P e, n ∈ DataW.weightsAll P e l
  | y :: l, d, hd, n, hn => by
    unfold DataW.weightsAll
    rcases List.mem_cons.1 hd with rfl | hd
    · exact List.mem_append_left _ hn
    · exact List.mem_append_right _ (weights_all hd n hn)
theorem cells_some {a : Addr} {n : Nat} {cs : List Value} (h : w.cells? 0 a n = some cs) : cs.length = n ∧ CellsAt w a cs := by
  unfold World.cells? at h
  rw [if_pos (Nat.zero_le _)] at h
  have h1 := mapM_some_length h
  refine ⟨by simpa using h1, fun i v hv => ?_⟩
  have hlt := (List.getElem?_eq_some_iff.1 hv).1
  have := mapM_some_get h i i (List.getElem?_range (by rw [List.length_range] at h1; omega))
  rw [this, hv]
theorem flat_cells {α : Type} {c : α → List Value} {z : Nat} (hz : ∀ x, (c x).length = z) : ∀ (l : List α) (a : Addr), (∀ (i : Nat) x, l[i]? = some x → CellsAt w (a.add (i * z)) (c x)) → CellsAt w a (l.flatMap c)
  | [], _, _ => fun i v hv => by simp at hv
  | x :: l, a, h => fun i v hv => by
    rw [List.flatMap_cons] at hv
    by_cases hi : i < z
    · rw [List.getElem?_append_left (by rw [hz]; exact hi)] at hv
      have := h 0 x rfl i v hv
      rw [Nat.zero_mul, add_zero] at this
      exact this
    · rw [List.getElem?_append_right (by rw [hz]; omega), hz] at hv
      have ih := flat_cells hz l (a.add z) (fun j y hj => by
        have := h (j + 1) y (by simpa using hj)
        rwa [add_add, show z + j * z = (j + 1) * z by rw [Nat.succ_mul]; omega])
      have := ih (i - z) v hv
      rwa [add_add, show z + (i - z) = i by omega] at this
theorem open_sl {t e z bytes : Nat} (hu : P.underlying t = some (.slice e)) (hz : P.cellsOf e = z) (hb : P.bytesOf e = bytes) {J : TI} (hJ : WrOk J z) {X : Type} {R : Rdr J.ty X} {Q : X → Prop}
    (he : OpenF enc P w sp held e fun cs => ∃ g x, cs = wrT J g ∧ R.R w (fun k => k < w.heap.size) g x ∧ Q x) :
    OpenF enc P w sp held t fun cs => ∃ (s : Sl) (xs : List X), cs = [.slice s.a s.n s.c] ∧ (Rdr.sl hJ R).R w (fun k => k < w.heap.size) s xs ∧ xs.length * bytes ≤ reachBytes ∧ ∀ (i : Nat) x, xs[i]? = some x → Q x := by
  intro f cs x h hw
  rcases DataW.trod_slice hu h with ⟨rfl, rfl⟩ | ⟨a, len, cap, elems, rest, n, rfl, rfl, rfl, _, hlc, _, hlen, hel, _, _⟩
  · exact ⟨⟨none, 0, 0⟩, [], rfl, ⟨[], SlT.nil _ _ _, trivial⟩, by simp, by simp⟩
  · simp only [DataW.weights, hu] at hw
    have hW := hw _ (List.mem_cons.2 (.inl rfl))
    rw [List.length_map, List.length_map, hb] at hW
    have key : ∀ i, i < len → ∃ g x, CellsAt w (a.add (i * z)) (wrT J g) ∧ R.R w (fun k => k < w.heap.size) g x ∧ Q x := by
      intro i hi
      have h1 := hel i hi
      rw [hz] at h1
      have hlt : i < elems.length := by omega
      rw [List.getElem?_eq_getElem hlt] at h1
      obtain ⟨c, hc, ht⟩ := Option.bind_eq_some_iff.1 h1
      obtain ⟨g, x, hg, hr, hq⟩ := he _ _ _ ht fun m hm => hw m (List.mem_cons.2 (.inr (List.mem_append_left _ (weights_all (List.mem_map.2 ⟨_, List.getElem_mem hlt, rfl⟩) m hm))))
      exact ⟨g, x, hg ▸ (cells_some hc).2, hr, hq⟩
    have build : ∀ m, m ≤ len → ∃ (gs : List J.ty) (xs : List X), gs.length = m ∧ (∀ (i : Nat) g, gs[i]? = some g → CellsAt w (a.add (i * z)) (wrT J g)) ∧ All2 (R.R w (fun k => k < w.heap.size)) gs xs ∧ ∀ (i : Nat) x, xs[i]? = some x → Q x := by
      intro m
      induction m with
      | zero => intro _; exact ⟨[], [], rfl, by simp, trivial, by simp⟩
      | succ m ih =>
        intro hm
        obtain ⟨gs, xs, hl, h1, h2, h3⟩ := ih (by omega)
        obtain ⟨g, x, hg, hr, hq⟩ := key m (by omega)
        have hl2 := h2.len
        refine ⟨gs ++ [g], xs ++ [x], by simp [hl], fun i g' hi => ?_, h2.snoc hr, fun i x' hi => ?_⟩
        · by_cases him : i < m
          · rw [List.getElem?_append_left (by omega)] at hi; exact h1 i g' hi
          · have hi2 := (List.getElem?_eq_some_iff.1 hi).1
            simp [hl] at hi2
            have : i = m := by omega
            subst this
            rw [← hl] at hi
            simp at hi
            subst hi
            exact hg
        · by_cases him : i < m
          · rw [List.getElem?_append_left (by omega)] at hi; exact h3 i x' hi
          · have hi2 := (List.getElem?_eq_some_iff.1 hi).1
            simp [← hl2, hl] at hi2
            have : i = xs.length := by omega
            subst this
            simp at hi
            subst hi
            exact hq
    obtain ⟨gs, xs, hl, h1, h2, h3⟩ := build len (Nat.le_refl _)
    have hl2 := h2.len
    refine ⟨⟨some a, len, cap⟩, xs, rfl, ⟨gs, ⟨hl.symm, hlc, ?_⟩, h2⟩, ?_, h3⟩
    · have hc := flat_cells (c := wrT J) hJ.len gs a h1
      by_cases hg : gs = []
      · exact .inl hg
      · refine .inr ⟨a, rfl, hc.lt ?_, hc⟩
        obtain ⟨g, r, rfl⟩ := List.exists_cons_of_ne_nil hg
        intro h0
        have := congrArg List.length h0
        simp only [List.flatMap_cons, List.length_append, List.length_nil, wrT, hJ.len g] at this
        have := hJ.pos
        omega
    · have : xs.length ≤ elems.length + rest.length := by omega
      exact Nat.le_trans (Nat.mul_le_mul_right _ this) hW
/-- A slice whose elements take one cell's worth of data. -/
theorem open_sl0 {t e z bytes : Nat} (hu : P.underlying t = some (.slice e)) (hz : P.cellsOf e = z) (hb : P.bytesOf e = bytes) {J : TI} (hJ : WrOk J z) {Q : J.ty → Prop}
    (he : OpenF enc P w sp held e fun cs => ∃ g, cs = wrT J g ∧ Q g) :
    OpenF enc P w sp held t fun cs => ∃ (s : Sl) (xs : List J.ty), cs = [.slice s.a s.n s.c] ∧ (Rdr.sl0 hJ).R w (fun k => k < w.heap.size) s xs ∧ xs.length * bytes ≤ reachBytes ∧ ∀ (i : Nat) x, xs[i]? = some x → Q x := by
  refine (open_sl (R := Rdr.val J.ty) (Q := Q) hu hz hb hJ (he.imp fun cs ⟨g, h1, h2⟩ => ⟨g, g, h1, rfl, h2⟩)).imp fun cs ⟨s, xs, h1, ⟨gs, h2, h3⟩, h4, h5⟩ => ?_
  have := All2.eq h3
  subst this
  exact ⟨s, gs, h1, h2, h4, h5⟩
/-- A composite's parts, one behind the other. -/
def Parts : List (List Value → Prop) → List Value → Prop
  | [], cs => cs = []
  | C :: Cs, cs => ∃ c r, cs = c ++ r ∧ C c ∧ Parts Cs r
/-- The fields of a struct: their types, sizes and what is known of them. -/
structure Fld where
  t : Nat
  z : Nat
  C : List Value → Prop
def offs : Nat → List Fld → List (Nat × Nat)
  | _, [] => []
  | o, f :: l => (f.t, o) :: offs (o + f.z) l
def sumZ : List Fld → Nat
  | [] => 0
  | f :: l => f.z + sumZ l
def structB (P : Program) (t : Nat) (l : List (Nat × Nat × Nat)) (n : Nat) : Bool := (match P.underlying t with
  | some (.struct fs) => decide (fs.toList.map (fun f => (f.type, f.offset, P.cellsOf f.type)) = l)
  | _ => false) && Nat.beq (P.cellsOf t) n
def offs3 : Nat → List Fld → List (Nat × Nat × Nat)
  | _, [] => []
  | o, f :: l => (f.t, o, f.z) :: offs3 (o + f.z) l
theorem open_parts {fuel : Nat} : ∀ (l : List Fld) (fs : List Field) (o : Nat) (cs : List Value) (xs : List (DataW H × List MemPlace)), fs.map (fun f => (f.type, f.offset, P.cellsOf f.type)) = offs3 o l →
    (cs.drop o).length = sumZ l → xs.length = fs.length → (∀ (i : Nat) (f : Field), fs[i]? = some f → DataW.trod enc P w 0 sp held fuel f.type ((cs.drop f.offset).take (P.cellsOf f.type)) = xs[i]?) →
    (∀ f ∈ l, OpenF enc P w sp held f.t f.C) → (∀ n ∈ DataW.weightsEach P (fs.map (·.type)) (xs.map (·.1)), n ≤ reachBytes) → Parts (l.map (·.C)) (cs.drop o)
  | [], [], o, cs, _, _, hl, _, _, _, _ => by
    simp only [sumZ] at hl
    exact List.eq_nil_of_length_eq_zero hl
  | f :: l, fd :: fs, o, cs, x :: xs, hf, hl, hx, ht, ho, hw => by
    simp only [List.map_cons, offs3, List.cons.injEq, Prod.mk.injEq] at hf
    obtain ⟨⟨e1, e2, e3⟩, hf⟩ := hf
    simp only [sumZ] at hl
    have h0 := ht 0 fd rfl
    rw [e1, e2] at h0
    rw [← e1, e3, e1] at h0
    simp only [List.map_cons, DataW.weightsEach] at hw
    have hc := ho f (by simp) _ _ _ h0 fun n hn => hw n (List.mem_append_left _ (by rw [e1]; exact hn))
    refine ⟨(cs.drop o).take f.z, (cs.drop o).drop f.z, (List.take_append_drop _ _).symm, hc, ?_⟩
    rw [List.drop_drop]
    refine open_parts (fuel := fuel) l fs (o + f.z) cs xs hf ?_ (by simpa using hx) (fun i g hg => ?_) (fun g hg => ho g (by simp [hg])) fun n hn => hw n (List.mem_append_right _ hn)
    · rw [List.length_drop] at hl ⊢; omega
    · have := ht (i + 1) g (by simpa using hg)
      simpa using this
  | [], _ :: _, _, _, _, hf, _, _, _, _, _ => by simp [offs3] at hf
  | _ :: _, [], _, _, _, hf, _, _, _, _, _ => by simp [offs3] at hf
  | _ :: _, _ :: _, _, _, [], _, _, hx, _, _, _ => by simp at hx
theorem open_struct {t n : Nat} (l : List Fld) (hs : structB P t (offs3 0 l) n = true) (hn : n = sumZ l) (ho : ∀ f ∈ l, OpenF enc P w sp held f.t f.C) : OpenF enc P w sp held t (Parts (l.map (·.C))) := by
  intro f cs x h hw
  simp only [structB, Bool.and_eq_true] at hs
  obtain ⟨hs, hc⟩ := hs
  have hc := Nat.eq_of_beq_eq_true hc
  split at hs
  · rename_i fs hu
    have hs := of_decide_eq_true hs
    obtain ⟨xs, m, rfl, rfl, hl, hx, ht⟩ := DataW.trod_struct hu h
    simp only [DataW.weights, hu] at hw
    have := open_parts l fs.toList 0 cs xs hs (by simp [hl, hc, hn]) (by simpa using hx) (fun i fd hi => ht i fd (by simpa using hi)) ho hw
    simpa using this
  · cases hs

/-! ### A law's row: it answers true, and nothing that was there has turned -/
theorem Ext.below {w w' : World} (h : Ext w w') : Below w.heap.size w w' := ⟨h.os, h.tape, h.output, h.size, fun k hk => h.block k hk fun hh => hh⟩
theorem trodAll_stays (hl : laidOutB P = true) {W W' : World} (hb : Below W.heap.size W W') : ∀ {ts : List TypeId} {vs : List Value} {ds : List (DataW H)} {p : List MemPlace}, (∀ t ∈ ts, P.readableRec t = true ∧ t < P.types.size) →
    DataW.TrodAll enc P W 0 (fun _ => true) true ts vs ds p → (∀ x ∈ p, x.block < W.heap.size) → ∀ sp : Nat → Bool, (∀ x ∈ p, sp x.block = true) → DataW.TrodAll enc P W' 0 sp true ts vs ds p
  | [], [], [], _, _, h, _, _, _ => h
  | t :: ts, v :: vs, d :: ds, _, ht, ⟨p, q, h1, h2, e⟩, hlt, sp, hsp => by
    refine ⟨p, q, ?_, trodAll_stays hl hb (fun u hu => ht u (by simp [hu])) h2 (fun x hx => hlt x (by rw [e]; exact List.mem_append_right _ hx)) sp (fun x hx => hsp x (by rw [e]; exact List.mem_append_right _ hx)), e⟩
    exact WideElems.Trod_stays hl (ht t (by simp)).1 (ht t (by simp)).2 h1 (fun x hx => hb.same (hlt x (by rw [e]; exact List.mem_append_left _ hx))) (fun x hx => hsp x (by rw [e]; exact List.mem_append_left _ hx))
end Go.Wf
