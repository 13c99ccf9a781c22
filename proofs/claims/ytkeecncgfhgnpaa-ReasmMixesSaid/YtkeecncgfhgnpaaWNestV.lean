/- A part of the proof: lemmas; nothing is claimed here. -/
import Derived.Test.YtkeecncgfhgnpaaWNestU
set_option linter.all false
namespace Go.Wf
open Go Go.RowKit
variable {P : Program} {T : TT} {ops : Array Oper} {hd tl : List Nat} {n : Nat} {w0 : World} {G0 : World → Prop} {e0 : Env} {D : List Deferred}

def Marked (T : TT) (ops : Array Oper) (w0 : World) (e0 : Env) (a : Act) (W : World) (e : Env) (th : Th) (mk : Marks) (j : Nat) : Prop :=
  ∃ o ej, ops[j]? = some o ∧ kdOf T o = 2 ∧ Sees ops e0 e j o ej ∧ ((mk j = some none ∧ wantE ops o ej = false ∧ ∀ (d : Nat), o.dst = some d → a.tmps[d]? = some undef) ∨
    ∃ b ob f, mk j = some (some b) ∧ wantE ops o ej = true ∧ newOf T o ej = some (ob, f) ∧ (∀ (d : Nat), o.dst = some d → a.tmps[d]? = some (f b)) ∧ W.heap[b]? = some ob ∧ w0.heap.size ≤ b ∧ ¬ th.av b)
structure HInv (P : Program) (T : TT) (ops : Array Oper) (hd tl : List Nat) (n : Nat) (w0 : World) (G0 : World → Prop) (e0 : Env) (D : List Deferred) (K : Env → Th → Prop) (listed : Array Bool) (a : Act) (W : World) (pl hr : List Nat) (e : Env) (th : Th) (mk : Marks) : Prop where
  inv : Inv P T ops hd n G0 e0 D listed a W (fun j => j ∈ pl) e
  split : hd = pl ++ hr
  nest : nestK P T ops mk K hr e th
  thw : th.w0 = w0
  hG : th.G W ∧ Ext w0 W
  stab : ∀ W W', th.G W → Ext W W' → th.G W'
  base : ∀ W, th.G W → G0 W
  bnd : ∀ b, th.av b ∨ th.pd b → b < W.heap.size
  effs : ∀ j ∈ pl, isEffB T ops j = true → listed[j]? = some true
  early : (∀ x ∈ pl, isEffB T ops x = false) → ∀ W, G0 W → th.G W
  mark : ∀ (j : Nat), j ∈ hr → listed[j]? = some true → Marked T ops w0 e0 a W e th mk j
  unm : ∀ (j : Nat), j ∈ hr → listed[j]? ≠ some true → mk j = none
  mpd : ∀ i b, mk i = some (some b) → th.pd b
  mdis : ∀ i j b, mk i = some (some b) → mk j = some (some b) → i = j
  tun : ∀ j ∈ tl, listed[j]? ≠ some true
def HNorm (T : TT) (ops : Array Oper) (listed : Array Bool) (hr : List Nat) : Prop := ∀ x r, hr = x :: r → listed[x]? ≠ some true ∧ (kdAt T ops x = 2 ∨ kdAt T ops x = 3)
theorem pre_snoc' (pl : List Nat) (i : Nat) : (fun j => j ∈ pl ∨ j = i) = fun j => j ∈ pl ++ [i] := by
  funext j; simp
theorem split_uniq {i : Nat} : ∀ {l1 l2 m1 m2 : List Nat}, l1 ++ i :: l2 = m1 ++ i :: m2 → i ∉ l1 → i ∉ m1 → l1 = m1
  | [], _, [], _, _, _, _ => rfl
  | [], _, x :: m1, _, h, _, h2 => by
    simp only [List.nil_append, List.cons_append, List.cons.injEq] at h
    exact absurd (by simp [h.1]) h2
  | x :: l1, _, [], _, h, h1, _ => by
    simp only [List.nil_append, List.cons_append, List.cons.injEq] at h
    exact absurd (by simp [h.1]) h1
  | x :: l1, _, y :: m1, _, h, h1, h2 => by
    simp only [List.cons_append, List.cons.injEq] at h
    obtain ⟨rfl, h⟩ := h
    rw [split_uniq h (fun h => h1 (by simp [h])) (fun h => h2 (by simp [h]))]
theorem isEff_of {o : Oper} {i : Nat} (ho : ops[i]? = some o) : isEffB T ops i = (Nat.beq (kdOf T o) 2 || Nat.beq (kdOf T o) 3) := by simp [isEffB, ho]
theorem marked_upd (G : Good T ops hd tl) {a : Act} {W W' : World} {e : Env} {th th' : Th} {mk : Marks} {j x : Nat} {ox : Oper} (hox : ops[x]? = some ox) (v : Value)
    (hsee : ∀ o, ops[j]? = some o → ∀ t ∈ o.looksAt ops, x ∈ bef (befOf ops) j → ox.dst ≠ some t) (hx : Ext W W') (hav : ∀ b, mk j = some (some b) → ¬ th.av b → ¬ th'.av b)
    (h : Marked T ops w0 e0 a W e th mk j) : Marked T ops w0 e0 a W' (upd e ox.dst v) th' mk j := by
  obtain ⟨o, ej, ho, hk, hs, h4⟩ := h
  refine ⟨o, ej, ho, hk, sees_upd hox (hsee o ho) G hs v, ?_⟩
  rcases h4 with h4 | ⟨b, ob, f, h5, h6, h7, h8, h9, h10, h11⟩
  · exact .inl h4
  · exact .inr ⟨b, ob, f, h5, h6, h7, h8, hx.at h9, h10, hav b h5 h11⟩
section
variable {K : Env → Th → Prop} {listed : Array Bool} {a : Act} {W : World} {mk : Marks}
theorem HInv.norm (hT : TOk P T) (G : Good T ops hd tl) : ∀ (hr pl : List Nat) (e : Env) (th : Th), HInv P T ops hd tl n w0 G0 e0 D K listed a W pl hr e th mk →
    ∃ pl' hr' e' th', HInv P T ops hd tl n w0 G0 e0 D K listed a W pl' hr' e' th' mk ∧ HNorm T ops listed hr'
  | [], pl, e, th, I => ⟨pl, [], e, th, I, fun x r h => by cases h⟩
  | i :: r, pl, e, th, I => by
    obtain ⟨o, ho⟩ : ∃ o, ops[i]? = some o := ⟨ops[i]'(G.lt i (by simp [I.split])), by simp [G.lt i (by simp [I.split])]⟩
    have hid : i ∈ hd := by simp [I.split]
    have hnew : i ∉ pl := G.hnew pl i r I.split
    have hbp : ∀ j ∈ bef (befOf ops) i, j ∈ pl := G.hpre pl i r I.split
    have hself := sees_self G I.inv ho hnew
    have hnest := I.nest
    simp only [nestK, ho] at hnest
    have hir : ∀ j ∈ r, j ≠ i := fun j hj e => by
      subst e
      obtain ⟨l1, l2, he⟩ := List.append_of_mem hj
      exact G.hnew (pl ++ j :: l1) j l2 (by rw [I.split, he]; simp) (by simp)
    by_cases hl : listed[i]? = some true
    · -- it came up early
      obtain ⟨o', ei, ho', hk, hs, h4⟩ := I.mark i (by simp) hl
      obtain rfl : o = o' := by rw [ho] at ho'; exact Option.some.inj ho'
      have hagree := sees_agree I.inv hnew hs
      have hseej : ∀ j ∈ r, listed[j]? = some true → ∀ oj, ops[j]? = some oj → ∀ t ∈ oj.looksAt ops, i ∈ bef (befOf ops) j → o.dst ≠ some t := fun j hj hjl oj hoj t ht _ hd' => by
        obtain ⟨oj', _, hoj', hkj, _⟩ := I.mark j (by simp [hj]) hjl
        exact G.hnn j (by simp [I.split, hj]) (by rw [kdAt_of hoj', hkj]) oj hoj i hid (by rw [kdAt_of ho, hk]) t (by rw [dstAt_of ho, hd']) ht
      have heff : isEffB T ops i = true := by rw [isEff_of ho, hk]; rfl
      have go : ∀ v th', (∀ (d : Nat), o.dst = some d → a.tmps[d]? = some v) → nestK P T ops mk K r (upd e o.dst v) th' → th'.w0 = th.w0 → th'.G W → (∀ W W', th'.G W → Ext W W' → th'.G W') → (∀ W, th'.G W → th.G W) →
          (∀ b, th'.av b ∨ th'.pd b → b < W.heap.size) → th'.pd = th.pd → (∀ j ∈ r, ∀ b, mk j = some (some b) → ¬ th.av b → ¬ th'.av b) →
          ∃ pl' hr' e' th', HInv P T ops hd tl n w0 G0 e0 D K listed a W pl' hr' e' th' mk ∧ HNorm T ops listed hr' := fun v th' hv hn h1 h2 h3 h4 h5 h6 h7 => by
        have hinv := I.inv.resolve G ho hnew hbp (v := v) (fun _ => hv) (fun h => absurd hl h)
        rw [pre_snoc'] at hinv
        refine HInv.norm hT G r (pl ++ [i]) _ th' ⟨hinv, by rw [I.split]; simp, hn, by rw [h1]; exact I.thw, ⟨h2, I.hG.2⟩, h3, fun W hW => I.base W (h4 W hW), h5, fun j hj hje => ?_, fun hno => ?_, fun j hj hjl => ?_, fun j hj => I.unm j (by simp [hj]), fun q b hq => by rw [h6]; exact I.mpd q b hq, I.mdis, I.tun⟩
        · rcases List.mem_append.1 hj with hj | hj
          · exact I.effs j hj hje
          · simp at hj; subst hj; exact hl
        · have := hno i (by simp)
          rw [heff] at this; cases this
        · exact marked_upd G ho v (hseej j hj hjl) (Ext.refl W) (h7 j hj) (I.mark j (by simp [hj]) hjl)
      rcases h4 with ⟨h5, h6, h7⟩ | ⟨b, ob, f, h5, h6, h7, h8, h9, h10, h11⟩
      · simp only [h5] at hnest
        exact go undef th h7 hnest rfl I.hG.1 I.stab (fun _ h => h) I.bnd rfl (fun _ _ _ _ h => h)
      · have hno : newOf T o e = some (ob, f) := by rw [newOf_congr (ev_eq hagree)]; exact h7
        simp only [h5, hno] at hnest
        refine go (f b) (th.new b ob) h8 hnest rfl ⟨I.hG.1, h9⟩ (fun W W' hW hx => ⟨I.stab _ _ hW.1 hx, hx.at hW.2⟩) (fun W hW => hW.1) ?_ rfl ?_
        · rintro c ((hc | rfl) | hc)
          · exact I.bnd c (.inl hc)
          · exact (Array.getElem?_eq_some_iff.1 h9).1
          · exact I.bnd c (.inr hc)
        · rintro j hj c hc h (h' | rfl)
          · exact h h'
          · exact hir j hj (I.mdis j i _ hc h5)
    · simp only [I.unm i (by simp) hl] at hnest
      rcases G.h4 i hid with hk | hk | hk
      case inr.inr => exact ⟨pl, i :: r, e, th, I, fun x r' h => by cases h; exact ⟨hl, hk⟩⟩
      all_goals
        have hkd := hk
        rw [kdAt_of ho] at hkd
        have hne : isEffB T ops i = false := by rw [isEff_of ho, hkd]; rfl
        have go : ∀ v C, nestK P T ops mk K r (upd e o.dst v) th → Duty P ops o e v C → C W → (∀ W W', C W → Ext W W' → C W') → (kdOf T o = 0 → ∀ W, C W) → (Early T ops hd i → ∀ W, G0 W → C W) →
            ∃ pl' hr' e' th', HInv P T ops hd tl n w0 G0 e0 D K listed a W pl' hr' e' th' mk ∧ HNorm T ops listed hr' := fun v C hn hdu hC hst hz he => by
          have hinv := I.inv.resolve G ho hnew hbp (v := v) (fun h => absurd h hl) (fun _ => ⟨o, e, v, C, ho, sees_upd ho (fun t _ hx => absurd (hbp i hx) hnew) G hself v, fun d hd' => by rw [hd', upd_same], hdu, hC, hst, hz, he, by
            first | exact .inl hkd | exact .inr ⟨hkd, hid⟩⟩)
          rw [pre_snoc'] at hinv
          refine HInv.norm hT G r (pl ++ [i]) _ th ⟨hinv, by rw [I.split]; simp, hn, I.thw, I.hG, I.stab, I.base, I.bnd, fun j hj hje => ?_, fun hno => I.early fun x hx => hno x (by simp [hx]), fun j hj hjl => ?_, fun j hj => I.unm j (by simp [hj]), I.mpd, I.mdis, I.tun⟩
          · rcases List.mem_append.1 hj with hj | hj
            · exact I.effs j hj hje
            · simp at hj; subst hj; rw [hne] at hje; cases hje
          · exact marked_upd G ho v (fun oj hoj t ht hx => absurd (I.inv.closed j hjl i hx) hl) (Ext.refl W) (fun _ _ h => h) (I.mark j (by simp [hj]) hjl)
        have hearly : Early T ops hd i → ∀ W, G0 W → th.G W := fun ⟨l1, l2, h1, h2⟩ => by
          have : pl = l1 := split_uniq (I.split.symm.trans h1) hnew (G.hnew l1 i l2 h1)
          exact I.early (this ▸ h2)
        rcases guardK_split (cond_out hnest).2 with ⟨h1, h2⟩ | ⟨h1, h2⟩
      · simp only [opN, hkd] at h2
        cases hp : pureOk o e with
        | false => rw [hp] at h2; exact h2.elim
        | true =>
          rw [hp] at h2
          simp only [cond_true] at h2
          obtain ⟨v, hv, hall⟩ := pure_split hp h2
          exact go v (fun _ => True) hv (.inl ⟨h1, fun W' _ => opK_run hT (hall W' _ ⟨rfl, rfl⟩)⟩) trivial (fun _ _ _ _ => trivial) (fun _ _ => trivial) (fun _ _ _ => trivial)
      · exact go undef (fun _ => True) h2 (.inr ⟨h1, rfl⟩) trivial (fun _ _ _ _ => trivial) (fun _ _ => trivial) (fun _ _ _ => trivial)
      · obtain ⟨v, hv, hall⟩ := read_split hkd h2
        exact go v th.G hv (.inl ⟨h1, fun W' hW' => opK_run hT (hall W' hW')⟩) I.hG.1 I.stab (fun h => by rw [hkd] at h; cases h) hearly
      · exact go undef th.G h2 (.inr ⟨h1, rfl⟩) I.hG.1 I.stab (fun h => by rw [hkd] at h; cases h) hearly
end
end Go.Wf
