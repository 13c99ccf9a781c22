/- A part of the proof: lemmas; nothing is claimed here. -/
import Derived.Test.YtkeecncgfhgnpaaWNestT
set_option linter.all false
namespace Go.Wf
open Go Go.RowKit
variable {P : Program} {T : TT} {ops : Array Oper} {hd tl : List Nat} {n : Nat} {w0 : World → Prop} {e0 : Env} {D : List Deferred}

theorem first_not {p : Nat → Prop} : ∀ (l : List Nat), (∃ i ∈ l, ¬ p i) → ∃ l1 i l2, l = l1 ++ i :: l2 ∧ ¬ p i ∧ ∀ j ∈ l1, p j
  | [], h => by obtain ⟨i, hi, _⟩ := h; cases hi
  | x :: l, h => by
    by_cases hx : p x
    · obtain ⟨i, hi, hn⟩ := h
      have hne : i ≠ x := fun e => hn (e ▸ hx)
      obtain ⟨l1, j, l2, h1, h2, h3⟩ := first_not l ⟨i, by simpa [hne] using hi, hn⟩
      exact ⟨x :: l1, j, l2, by simp [h1], h2, by simpa [hx] using h3⟩
    · exact ⟨[], x, l, rfl, hx, by simp⟩
theorem all_listed {listed : Array Bool} (G : Good T ops hd tl) (hs : listed.size = ops.size) (hr : Region.ready .any ops listed = []) : ∀ i, i < ops.size → listed[i]? = some true := by
  have rdy : ∀ (i : Nat), i < ops.size → listed[i]? ≠ some true → (∀ j ∈ bef (befOf ops) i, listed[j]? = some true) → False := fun i hi hun hb => by
    have hio : ops[i]? = some ops[i] := by simp [hi]
    have hf : listed[i]? = some false := by
      cases h : listed[i]? with
      | none => rw [Array.getElem?_eq_none_iff] at h; omega
      | some b => cases b <;> simp_all
    have : i ∈ Region.ready .any ops listed := by
      simp only [Region.ready, List.mem_filter, List.mem_range, Bool.and_eq_true, Bool.not_eq_true']
      refine ⟨hi, by simp [Array.getD_eq_getD_getElem?, hf], ?_⟩
      simp only [hio, Option.map_some, Option.getD_some, Array.all_eq_true_iff_forall_mem, Bool.or_eq_true, Bool.not_eq_true']
      intro e he
      cases hb' : Region.binds .any e with
      | false => exact .inl rfl
      | true =>
        have hej : e.on ∈ edgesOf ops[i] := by
          simp only [edgesOf, List.mem_map, List.mem_filter]
          exact ⟨e, ⟨by simpa using he, hb'⟩, rfl⟩
        exact .inr (by simp [Array.getD_eq_getD_getElem?, hb _ ((G.opf i _ hio).edge _ hej)])
    rw [hr] at this
    cases this
  have h1 : ∀ i ∈ hd, listed[i]? = some true := fun i hi => Classical.byContradiction fun hn => by
    obtain ⟨l1, x, l2, he, hx, hl⟩ := first_not (p := fun i => listed[i]? = some true) hd ⟨i, hi, hn⟩
    exact rdy x (G.lt x (by simp [he])) hx fun j hj => hl j (G.hpre l1 x l2 he j hj)
  have h2 : ∀ i ∈ tl, listed[i]? = some true := fun i hi => Classical.byContradiction fun hn => by
    obtain ⟨l1, x, l2, he, hx, hl⟩ := first_not (p := fun i => listed[i]? = some true) tl ⟨i, hi, hn⟩
    exact rdy x (G.lt x (by simp [he])) hx fun j hj => (G.tpre l1 x l2 he j hj).elim (hl j) (h1 j)
  intro i hi
  rcases G.all i hi with h | h
  · exact h1 i h
  · exact h2 i h
theorem count_set {listed : Array Bool} {i fuel : Nat} (hi : i < listed.size) (hun : listed[i]? ≠ some true) (hf : (listed.toList.filter (· = false)).length ≤ fuel + 1) :
    ((listed.setIfInBounds i true).toList.filter (· = false)).length ≤ fuel := by
  have h1 : listed.toList[i]? = some false := by
    have : listed[i]? = some listed[i] := by simp [hi]
    rw [this] at hun
    cases h : listed[i] with
    | true => rw [h] at hun; exact absurd rfl hun
    | false => simp [hi, h]
  have : ∀ (l : List Bool) (i : Nat), l[i]? = some false → ((l.set i true).filter (· = false)).length + 1 = (l.filter (· = false)).length := by
    intro l
    induction l with
    | nil => intro i h; simp at h
    | cons b l ih =>
      intro i h
      cases i with
      | zero => simp at h; subst h; simp
      | succ i =>
        have := ih i (by simpa using h)
        cases b <;> simp only [List.set_cons_succ, List.filter_cons] <;> simp at this ⊢ <;> omega
  have := this _ _ h1
  rw [Array.toList_setIfInBounds]
  omega
theorem count_pos {listed : Array Bool} {i : Nat} (hi : i < listed.size) (hun : listed[i]? ≠ some true) : 0 < (listed.toList.filter (· = false)).length := by
  have h1 : false ∈ listed.toList := by
    have : listed[i]? = some listed[i] := by simp [hi]
    rw [this] at hun
    cases h : listed[i] with
    | true => rw [h] at hun; exact absurd rfl hun
    | false => rw [← h]; simp
  exact List.length_pos_of_mem (List.mem_filter.2 ⟨h1, by simp⟩)

structure TInv (P : Program) (T : TT) (ops : Array Oper) (hd tl : List Nat) (n : Nat) (w0 : World → Prop) (e0 : Env) (D : List Deferred) (K : Env → World → Prop) (listed : Array Bool) (a : Act) (W : World) (tp rest : List Nat) (e : Env) : Prop where
  inv : Inv P T ops hd n w0 e0 D listed a W (fun j => j ∈ hd ∨ j ∈ tp) e
  split : tl = tp ++ rest
  tail : tailK P T ops w0 (flagOf T ops (befOf ops) hd) K rest e W
  effs : ∀ j ∈ hd, isEffB T ops j = true → listed[j]? = some true
  np : ∀ j ∈ tp, kdAt T ops j ≠ 0 → listed[j]? = some true
  un : ∀ j ∈ rest, listed[j]? ≠ some true
  rd : (∃ j ∈ hd, listed[j]? ≠ some true ∧ kdAt T ops j ≠ 0) → w0 W
def TNorm (T : TT) (ops : Array Oper) (rest : List Nat) : Prop := ∀ x r, rest = x :: r → kdAt T ops x ≠ 0

theorem pre_snoc (hd tp : List Nat) (i : Nat) : (fun j => (j ∈ hd ∨ j ∈ tp) ∨ j = i) = fun j => j ∈ hd ∨ j ∈ tp ++ [i] := by
  funext j; simp [or_assoc]
section
variable {K : Env → World → Prop} {listed : Array Bool} {a : Act} {W : World}
theorem TInv.norm (hT : TOk P T) (G : Good T ops hd tl) : ∀ (rest tp : List Nat) (e : Env), TInv P T ops hd tl n w0 e0 D K listed a W tp rest e →
    ∃ tp' rest' e', TInv P T ops hd tl n w0 e0 D K listed a W tp' rest' e' ∧ TNorm T ops rest'
  | [], tp, e, I => ⟨tp, [], e, I, fun x r h => by cases h⟩
  | i :: r, tp, e, I => by
    by_cases hk : kdAt T ops i = 0
    · obtain ⟨o, ho⟩ : ∃ o, ops[i]? = some o := ⟨ops[i]'(G.lt i (by simp [I.split])), by simp [G.lt i (by simp [I.split])]⟩
      have hkd : kdOf T o = 0 := by rw [← kdAt_of ho]; exact hk
      have hnew := G.tnew tp i r I.split
      have hnp : ¬ (i ∈ hd ∨ i ∈ tp) := fun h => h.elim hnew.2 hnew.1
      have hbp : ∀ j ∈ bef (befOf ops) i, j ∈ hd ∨ j ∈ tp := fun j hj => (G.tpre tp i r I.split j hj).symm
      have hun := I.un i (by simp)
      have ht := I.tail
      simp only [tailK, ho, hkd] at ht
      have go : ∀ v, (tailK P T ops w0 (flagOf T ops (befOf ops) hd) K r (upd e o.dst v) W) → Duty P ops o e v (fun _ => True) →
          ∃ tp' rest' e', TInv P T ops hd tl n w0 e0 D K listed a W tp' rest' e' ∧ TNorm T ops rest' := fun v hv hdu => by
        have hself := sees_self G I.inv ho hnp
        have hinv := I.inv.resolve G ho hnp hbp (v := v) (fun h => absurd h hun) (fun _ => ⟨o, e, v, fun _ => True, ho,
          sees_upd ho (fun t _ hx => absurd (hbp i hx) hnp) G hself v, fun d hd' => by rw [hd', upd_same], hdu, trivial, fun _ _ _ _ => trivial, fun _ _ => trivial, fun _ _ _ => trivial, .inl hkd⟩)
        rw [pre_snoc] at hinv
        refine TInv.norm hT G r (tp ++ [i]) _ ⟨hinv, by rw [I.split]; simp, hv, I.effs, fun j hj hk' => ?_, fun j hj => I.un j (by simp [hj]), I.rd⟩
        rcases List.mem_append.1 hj with hj | hj
        · exact I.np j hj hk'
        · simp at hj; subst hj; exact absurd hk hk'
      rcases guardK_split ht with ⟨h1, h2⟩ | ⟨h1, h2⟩
      · cases hp : pureOk o e with
        | false => rw [hp] at h2; exact h2.elim
        | true =>
          rw [hp] at h2
          simp only [cond_true] at h2
          obtain ⟨v, hv, hall⟩ := pure_split hp h2
          exact go v hv (.inl ⟨h1, fun W' _ => opK_run hT (hall W' _ ⟨rfl, rfl⟩)⟩)
      · exact go undef h2 (.inr ⟨h1, rfl⟩)
    · exact ⟨tp, i :: r, e, I, fun x r' h => by cases h; exact hk⟩
theorem TInv.step (hT : TOk P T) (ro : Option Nat) (m : Nat) (G : Good T ops hd tl) (N : Within ops n) {tp rest : List Nat} {e : Env} (I : TInv P T ops hd tl n w0 e0 D K listed a W tp rest e) (hn : TNorm T ops rest)
    {i : Nat} (hi : i ∈ Region.ready .any ops listed) {K' : Act → World → Prop} {Q : Exit → Act → World → Prop}
    (hK : ∀ a' W' tp' rest' e', TInv P T ops hd tl n w0 e0 D K (listed.setIfInBounds i true) a' W' tp' rest' e' → TNorm T ops rest' → K' a' W') : wpOpIn (fenceR ro) m P ops Q i K' a W := by
  obtain ⟨o, ho, hun, hb⟩ := ready_facts hi G I.inv.closed
  have hl : i < listed.size := by rw [I.inv.lsize]; exact (Array.getElem?_eq_some_iff.1 ho).1
  have hset : ∀ q, (listed.setIfInBounds i true)[q]? = some true ↔ (q = i ∨ listed[q]? = some true) := fun q => by
    by_cases hq : q = i
    · subst hq; simp [hl]
    · simp [Ne.symm hq, hq]
  by_cases hp : i ∈ hd ∨ i ∈ tp
  · refine I.inv.due ro m G N ho hun hb hp fun v hI => ?_
    refine hK _ _ tp rest e ⟨hI, I.split, I.tail, fun j hj hj' => (hset j).2 (.inr (I.effs j hj hj')), fun j hj hj' => (hset j).2 (.inr (I.np j hj hj')), fun j hj h => ?_, fun ⟨j, hj, h1, h2⟩ => ?_⟩ hn
    · rcases (hset j).1 h with rfl | h
      · obtain ⟨l1, l2, he⟩ := List.append_of_mem hj
        have := G.tnew (tp ++ l1) j l2 (by rw [I.split, he]; simp)
        rcases hp with hp | hp
        · exact this.2 hp
        · exact this.1 (by simp [hp])
      · exact I.un j hj h
    · exact I.rd ⟨j, hj, fun h => h1 ((hset j).2 (.inr h)), h2⟩
  · have hir : i ∈ rest := by
      rcases G.all i (Array.getElem?_eq_some_iff.1 ho).1 with h | h
      · exact absurd (.inl h) hp
      · rw [I.split] at h
        exact (List.mem_append.1 h).resolve_left (fun h => hp (.inr h))
    cases rest with
    | nil => cases hir
    | cons x r =>
      have hx : i = x := by
        rcases List.mem_cons.1 hir with h | h
        · exact h
        · obtain ⟨l1, l2, he⟩ := List.append_of_mem h
          rcases G.tseq (tp ++ x :: l1) i l2 (by rw [I.split, he]; simp) x (by simp) with h0 | h0
          · exact absurd h0 (hn x r rfl)
          · exact absurd (hb x h0) (I.un x (by simp))
      subst hx
      have hkd : kdOf T o ≠ 0 := by rw [← kdAt_of ho]; exact hn i r rfl
      have hnp := hp
      have hbp : ∀ j ∈ bef (befOf ops) i, j ∈ hd ∨ j ∈ tp := fun j hj => (G.tpre tp i r I.split j hj).symm
      have hself := sees_self G I.inv ho hnp
      have hag := I.inv.see N ho hun hb (fun j hj _ _ _ => hbp j hj) hself
      have ht := I.tail
      simp only [tailK, ho] at ht
      have cont : ∀ v W', (∀ (j : Nat), (j ∈ hd ∨ j ∈ tp) → j ≠ i → listed[j]? ≠ some true → Due P T ops hd w0 e0 e j W → Due P T ops hd w0 e0 e j W') →
          ((∃ j ∈ hd, listed[j]? ≠ some true ∧ kdAt T ops j ≠ 0) → w0 W') →
          tailK P T ops w0 (flagOf T ops (befOf ops) hd) K r (upd e o.dst v) W' → K' (a.put o.dst v) W' := fun v W' hW hrd hv => by
        have hI := I.inv.list G N ho hun hb (v := v) (W' := W') hW (fun h => absurd h hnp)
        have hI2 := hI.resolve G ho hnp hbp (v := v) (fun _ d hd' => by
          have := (N i o ho).2 d hd'
          simp [hd', Act.put, I.inv.tsize, this]) (fun h => absurd ((hset i).2 (.inl rfl)) h)
        rw [pre_snoc] at hI2
        obtain ⟨tp', rest', e', hT', hN'⟩ := TInv.norm hT G r (tp ++ [i]) _ ⟨hI2, by rw [I.split]; simp, hv, fun j hj hj' => (hset j).2 (.inr (I.effs j hj hj')), fun j hj hj' => (by
          rcases List.mem_append.1 hj with hj | hj
          · exact (hset j).2 (.inr (I.np j hj hj'))
          · simp at hj; subst hj; exact (hset j).2 (.inl rfl)), fun j hj h => (by
          rcases (hset j).1 h with rfl | h
          · obtain ⟨l1, l2, he⟩ := List.append_of_mem hj
            have := G.tnew (tp ++ j :: l1) j l2 (by rw [I.split, he]; simp)
            exact this.1 (by simp)
          · exact I.un j (by simp [hj]) h), fun ⟨j, hj, h1, h2⟩ => hrd ⟨j, hj, fun h => h1 ((hset j).2 (.inr h)), h2⟩⟩
        exact hK _ _ tp' rest' e' hT' hN'
      -- the readers that are still to come
      have dues : ∀ W', ((∃ j ∈ hd, listed[j]? ≠ some true ∧ kdAt T ops j ≠ 0) → w0 W') → ∀ (j : Nat), (j ∈ hd ∨ j ∈ tp) → j ≠ i → listed[j]? ≠ some true → Due P T ops hd w0 e0 e j W → Due P T ops hd w0 e0 e j W' := by
        intro W' hW' j hj hji hjl hdue
        obtain ⟨oj, ej, u, C, hoj, hs, hd', h3, h4, h5, h6, h7, h8⟩ := hdue
        refine ⟨oj, ej, u, C, hoj, hs, hd', h3, ?_, h5, h6, h7, h8⟩
        rcases h8 with h8 | ⟨h8, hjd⟩
        · exact h6 h8 _
        · have hk1 : kdAt T ops j ≠ 0 := by rw [kdAt_of hoj, h8]; decide
          refine h7 ?_ _ (hW' ⟨j, hjd, hjl, hk1⟩)
          rcases G.tread i (by rw [I.split]; simp) with h0 | h0
          · exact absurd h0 (hn i r rfl)
          · rcases h0 j hjd with h0 | h0 | h0
            · exact absurd (hb j h0) hjl
            · exact absurd h0 hk1
            · exact h0
      refine comes ro m G ho hag ?_
      rcases guardK_split ht with ⟨h1, h2⟩ | ⟨h1, h2⟩
      · refine .inl ⟨h1, ?_⟩
        have h3 : opK P T o e W fun v W' => (match flagOf T ops (befOf ops) hd i with
          | true => w0 W' ∧ tailK P T ops w0 (flagOf T ops (befOf ops) hd) K r (upd e o.dst v) W'
          | false => tailK P T ops w0 (flagOf T ops (befOf ops) hd) K r (upd e o.dst v) W') := by
          revert h2
          generalize kdOf T o = q at hkd
          cases q with
          | zero => exact absurd rfl hkd
          | succ q => exact id
        refine runK_mono (fun v W' hv => ?_) (opK_run hT h3)
        have hrd : (∃ j ∈ hd, listed[j]? ≠ some true ∧ kdAt T ops j ≠ 0) → w0 W' := fun ⟨j, hj, hj1, hj2⟩ => by
          have hf : flagOf T ops (befOf ops) hd i = true := by
            unfold flagOf
            rw [List.any_eq_true]
            refine ⟨j, hj, ?_⟩
            have hm : memB (bef (befOf ops) i) j = false := by
              cases hm : memB (bef (befOf ops) i) j with
              | false => rfl
              | true => exact absurd (hb j (memB_mem hm)) hj1
            rw [hm]
            obtain ⟨oj, hoj⟩ : ∃ oj, ops[j]? = some oj := ⟨ops[j]'(G.lt j (by simp [hj])), by simp [G.lt j (by simp [hj])]⟩
            simp only [hoj, Bool.not_false, Bool.true_and, Bool.not_eq_true']
            rw [kdAt_of hoj] at hj2
            cases hb2 : Nat.beq (kdOf T oj) 0 with
            | false => rfl
            | true => exact absurd (Nat.eq_of_beq_eq_true hb2) hj2
          rw [hf] at hv
          exact hv.1
        refine cont v W' (dues W' hrd) hrd ?_
        cases hf : flagOf T ops (befOf ops) hd i with
        | true => rw [hf] at hv; exact hv.2
        | false => rw [hf] at hv; exact hv
      · exact .inr ⟨h1, cont undef W (fun _ _ _ _ h => h) I.rd h2⟩
theorem Inv.full {pre : Nat → Prop} {e : Env} (G : Good T ops hd tl) (I : Inv P T ops hd n w0 e0 D listed a W pre e) (hall : ∀ i, i < ops.size → listed[i]? = some true) (hpre : ∀ i, i < ops.size → pre i) : Rep n a e := by
  refine ⟨I.tsize, fun t ht => ?_⟩
  by_cases h : ∃ q, dstAt ops q = some t
  · obtain ⟨q, hq⟩ := h
    obtain ⟨p, hp, _⟩ := Option.bind_eq_some_iff.1 (show (ops[q]?).bind (·.dst) = some t from hq)
    have hlt := (Array.getElem?_eq_some_iff.1 hp).1
    exact I.mach1 q t (hall q hlt) (hpre q hlt) hq
  · rw [I.mach2 t ht fun q _ hq => h ⟨q, hq⟩, I.clean t fun q _ hq => h ⟨q, hq⟩]
theorem tail_main (hT : TOk P T) (ro : Option Nat) (m : Nat) (G : Good T ops hd tl) (N : Within ops n) {Q : Exit → Act → World → Prop} (hQ : ∀ a W e, Rep n a e → a.defers = D → (∀ t, (∀ q, dstAt ops q ≠ some t) → e t = e0 t) → K e W → Q .normal a W) :
    ∀ (fuel : Nat) (listed : Array Bool) (a : Act) (W : World), (∃ tp rest e, TInv P T ops hd tl n w0 e0 D K listed a W tp rest e ∧ TNorm T ops rest) →
      (listed.toList.filter (· = false)).length ≤ fuel → wpAnyIn (fenceR ro) m P .any ops Q fuel listed a W := by
  have fin : ∀ (listed : Array Bool) (a : Act) (W : World), (∃ tp rest e, TInv P T ops hd tl n w0 e0 D K listed a W tp rest e ∧ TNorm T ops rest) → Region.ready .any ops listed = [] → Q .normal a W := by
    rintro listed a W ⟨tp, rest, e, I, hn⟩ hr
    have hall := all_listed G I.inv.lsize hr
    have hrest : rest = [] := by
      cases rest with
      | nil => rfl
      | cons x r => exact absurd (hall x (G.lt x (by simp [I.split]))) (I.un x (by simp))
    subst hrest
    refine hQ a W e (I.inv.full G hall fun i hi => ?_) I.inv.defers (fun t ht => I.inv.clean t fun q _ => ht q) I.tail
    rcases G.all i hi with h | h
    · exact .inl h
    · rw [I.split] at h; exact .inr (by simpa using h)
  intro fuel
  induction fuel with
  | zero =>
    intro listed a W hI hf
    have hr : Region.ready .any ops listed = [] := by
      apply List.eq_nil_iff_forall_not_mem.2
      intro i hi
      obtain ⟨tp, rest, e, I, hn⟩ := hI
      obtain ⟨o, ho, hun, hb⟩ := ready_facts hi G I.inv.closed
      have := count_pos (by rw [I.inv.lsize]; exact (Array.getElem?_eq_some_iff.1 ho).1) hun
      omega
    exact ⟨hr, fin _ _ _ hI hr⟩
  | succ fuel ih =>
    intro listed a W hI hf
    refine ⟨fun hr => fin _ _ _ hI hr, fun i hi => ?_⟩
    obtain ⟨tp, rest, e, I, hn⟩ := hI
    obtain ⟨o, ho, hun, hb⟩ := ready_facts hi G I.inv.closed
    exact I.step hT ro m G N hn hi fun a' W' tp' rest' e' hI' hn' => ih _ _ _ ⟨tp', rest', e', hI', hn'⟩ (count_set (by rw [I.inv.lsize]; exact (Array.getElem?_eq_some_iff.1 ho).1) hun hf)
end
end Go.Wf
